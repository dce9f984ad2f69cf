


/- The reference of package game: Compare, Moves, Next; what a plan holds; Choices, best, worst, put, follow, start, Value, Plan, Same, Few. -/
import Derived.Test.YtlkknoooeldomaaGamT
import Derived.Laws.MakeOwn
namespace Go.Proofs.Ytlkknoooeldomaa
section
open Go.RowKit Go.Sort

def sgnI (b : Bool) : Int := if b then -1 else 1
theorem sign_any (b : Bool) (w : World) : Calls Try.prog 50 #[.bool b] w (RetS (.int .i64 (sgnI b)) w) := by
  go_enter Try.func50, Try.ntmps50
  cases b <;> (go_wp2_with fail; go_ret; exact retS rfl)
theorem ig_bit {l : List Bool} {i : Nat} (h : i < l.length) : ig (bitL l) i = bitI (bg l i) := by
  unfold bitL
  rw [ig_lt (by simpa using h), List.getElem_map, bg_lt h]
theorem cmpI_sign {a b : Int} (h : ¬ a = b) : cmpI a b = sgnI (decide (a < b)) := by
  unfold sgnI
  have := cmpI_cases a b
  by_cases h2 : a < b
  · simp only [h2, decide_true, if_true]; omega
  · simp only [h2, decide_false, Bool.false_eq_true, if_false]; omega
set_option maxRecDepth 100000 in
set_option maxHeartbeats 8000000 in
theorem rcmp_any (x y : PA) (w : World) (hx : PsAt w x.1 x.2.1 x.2.2.2.1) (hy : PsAt w y.1 y.2.1 y.2.2.2.1) (hs : y.1.starts.length = x.1.starts.length) (hf : y.1.failed.length = x.1.failed.length) (h1 : x.1.starts.length ≤ 1000 ∧ x.1.failed.length ≤ 1000) :
    Calls Try.prog 23 #[.agg (psCs x).toArray, .agg (psCs y).toArray] w (RetB (.int .i64 (cmpP x.1 y.1)) w) := by
  obtain ⟨⟨xt, xs, xf, xb, xc, xd⟩, sa, sc, fa, fc⟩ := x
  obtain ⟨⟨yt, ys, yf, yb, yc, yd⟩, sb, sd, fb, fd⟩ := y
  simp only at hs hf h1 hx hy
  obtain ⟨n, hn⟩ : ∃ n, n = xs.length := ⟨_, rfl⟩
  obtain ⟨m, hm⟩ : ∃ m, m = xf.length := ⟨_, rfl⟩
  obtain ⟨r, hr⟩ : ∃ r, r = cmpP ⟨xt, xs, xf, xb, xc, xd⟩ ⟨yt, ys, yf, yb, yc, yd⟩ := ⟨_, rfl⟩
  have hr2 : r = or0 (cmpI xt yt) (or0 (cmpL xs ys) (or0 (cmpL (bitL xf) (bitL yf)) (cmpI xb yb))) := hr
  have hn1 : n ≤ 1000 := by omega
  have hm1 : m ≤ 1000 := by omega
  rw [← hn] at hs
  rw [← hm] at hf
  have e1 : (psCs (⟨xt, xs, xf, xb, xc, xd⟩, sa, sc, fa, fc) : List Value) = [.int .i64 xt, .slice sa n sc, .slice fa m fc, .int .i64 xb, .int .i64 xc, .int .i64 xd] := by rw [hn, hm]
  have e2 : (psCs (⟨yt, ys, yf, yb, yc, yd⟩, sb, sd, fb, fd) : List Value) = [.int .i64 yt, .slice sb n sd, .slice fb m fd, .int .i64 yb, .int .i64 yc, .int .i64 yd] := by rw [← hs, ← hf]
  rw [e1, e2]
  show Calls _ _ _ _ (RetB (.int .i64 (cmpP ⟨xt, xs, xf, xb, xc, xd⟩ ⟨yt, ys, yf, yb, yc, yd⟩)) w)
  rw [← hr]
  have HR := Lib.hid hr2
  have HN := Lib.hid hn
  have HM := Lib.hid hm
  have HNS := Lib.hid hs
  have HMF := Lib.hid hf
  have HX := Lib.hid hx
  have HY := Lib.hid hy
  clear e1 e2 hr hr2 hn hm hs hf hx hy h1
  go_enter Try.func23, Try.ntmps23
  go_upto_region 1 with fail
  refine wp_named ?_
  intro w1 hw1
  obtain ⟨hb1, hs1, b1, b2⟩ := alloc2 w [.int .i64 xt, .slice sa n sc, .slice fa m fc, .int .i64 xb, .int .i64 xc, .int .i64 xd] [.int .i64 yt, .slice sb n sd, .slice fb m fd, .int .i64 yb, .int .i64 yc, .int .i64 yd] _ _ w1 hw1
  have HB1 := Lib.hid hb1
  have x0 := (b1 0 _ rfl).1
  have x1 := (b1 1 _ rfl).1
  have x2 := (b1 2 _ rfl).1
  have x3 := (b1 3 _ rfl).1
  have y0 := (b2 0 _ rfl).1
  have y1 := (b2 1 _ rfl).1
  have y2 := (b2 2 _ rfl).1
  have y3 := (b2 3 _ rfl).1
  clear hw1 hb1 hs1 b1 b2
  by_cases ht : xt = yt
  · subst ht
    have HR1 := Lib.hid (show r = or0 (cmpL xs ys) (or0 (cmpL (bitL xf) (bitL yf)) (cmpI xb yb)) from by
      rw [HR.out, cmpI_zero.2 rfl]
      rfl)
    have HX1 := Lib.hid x1
    have HX2 := Lib.hid x2
    have HX3 := Lib.hid x3
    have HY1 := Lib.hid y1
    have HY2 := Lib.hid y2
    have HY3 := Lib.hid y3
    go_wp2_with fail
    clear x0 x1 x2 x3 y0 y1 y2 y3
    go_loopg [5] (n + 1) (fun gk v5 wr => ∃ i : Nat, i ≤ n ∧ gk + i = n + 1 ∧ v5 = .int .i64 i ∧ Below w1.heap.size w1 wr ∧ cmpL xs ys = cmpL (xs.drop i) (ys.drop i))
    case atStart => exact ⟨0, by omega, by omega, rfl, Below.refl _ _, rfl⟩
    case round =>
      obtain ⟨i, hi, hgi, rfl, hbr, he⟩ := hrel
      obtain ⟨wq, hwq⟩ : ∃ wq, wq = wr := ⟨_, rfl⟩
      subst hwq
      have HE := Lib.hid he
      have HBR := Lib.hid hbr
      have x1 := cell_later hbr HX1.out
      have y1 := cell_later hbr HY1.out
      clear he hbr
      by_cases hlt : i < n
      · obtain ⟨ab, ao, rfl, fp⟩ := HX.out.s.fam (show 0 < xs.length by have := HN.out; omega)
        obtain ⟨bb, bo, rfl, fq⟩ := HY.out.s.fam (show 0 < ys.length by have := HNS.out; omega)
        have cx := cell_later HBR.out (cell_later HB1.out (fp i (show i < xs.length by have := HN.out; omega)))
        have cy := cell_later HBR.out (cell_later HB1.out (fq i (show i < ys.length by have := HNS.out; omega)))
        obtain ⟨a, ha⟩ : ∃ a, a = ig xs i := ⟨_, rfl⟩
        obtain ⟨b, hb⟩ : ∃ b, b = ig ys i := ⟨_, rfl⟩
        simp only at cx cy
        rw [← ha] at cx
        rw [← hb] at cy
        have HST := Lib.hid (show cmpL xs ys = if cmpI a b = 0 then cmpL (xs.drop (i + 1)) (ys.drop (i + 1)) else cmpI a b from by
          rw [HE.out, ha, hb]
          exact cmpL_step (by have := HN.out; omega) (by have := HNS.out; omega))
        have i1 : (i : Int) < (n : Int) := by omega
        have i0 : (0 : Int) ≤ (i : Int) := by omega
        have HLT := Lib.hid hlt
        clear fp fq ha hb hlt hi
        have hS : ∀ wy : World, Below wq.heap.size wq wy → wy.cell? ⟨w.heap.size, 1, none⟩ = some (.slice (some ⟨ab, ao, none⟩) n sc) ∧ wy.cell? ⟨w.heap.size + 1, 1, none⟩ = some (.slice (some ⟨bb, bo, none⟩) n sd) ∧ wy.cell? ⟨ab, ao + i, none⟩ = some (.int .i64 a) ∧ wy.cell? ⟨bb, bo + i, none⟩ = some (.int .i64 b) := fun wy hy => ⟨cell_later hy x1, cell_later hy y1, cell_later hy cx, cell_later hy cy⟩
        by_cases hab : a = b
        · have e1 : (a == b) = true := by simpa using hab
          have HNX := Lib.hid (show cmpL xs ys = cmpL (xs.drop (i + 1)) (ys.drop (i + 1)) from by rw [HST.out, if_pos (cmpI_zero.2 hab)])
          have hnab : ¬ ¬ a = b := not_not_intro hab
          go_upto_region 6 with fail
          refine wp_flow_s [] [] (by kernel_rfl) (by kernel_rfl) (by kernel_rfl) ?_
          repeat (first | ((with_reducible refine Flow.pure hS StayG.nil (v := ?_) ?_ ?_ ?_ ?_); rotate_left 1; (focus kernel_rfl); (focus (intro _; rfl)); (focus (intro β wx hSw; (try dsimp only at hSw); go_simp; (try with_reducible rfl); done)); (try simp only [Act.put, List.setIfInBounds_toArray, List.set_cons_zero, List.set_cons_succ, Nat.reduceAdd])) | ((with_reducible refine Flow.skip StayG.nil ?_ ?_ ?_); (focus kernel_rfl); (focus (intro _; rfl)); (try simp only [Act.put, List.setIfInBounds_toArray, List.set_cons_zero, List.set_cons_succ, Nat.reduceAdd])))
          ((with_reducible refine Flow.stop ?_); dsimp only; intro β w4 hI4)
          have HB4 := Lib.hid (HBR.out.trans (hI4.below.mono HBR.out.size))
          clear hS hI4 x1 y1 cx cy
          go_wp2_with fail
          go_roundg (n - i)
          case measure => have := HLT.out; omega
          case rel => exact ⟨i + 1, HLT.out, by have := HLT.out; omega, by go_num, HB4.out, HNX.out⟩
        · have e1 : (a == b) = false := by simpa using hab
          have HRE := Lib.hid (show r = sgnI (decide (a < b)) from by
            have h1 := cmpI_cases a b
            rw [HR1.out, HST.out, ← cmpI_sign hab]
            unfold or0
            rw [if_neg (by omega), if_neg (by omega)])
          go_upto_region 6 with fail
          refine wp_flow_s [] [] (by kernel_rfl) (by kernel_rfl) (by kernel_rfl) ?_
          repeat (first | ((with_reducible refine Flow.pure hS StayG.nil (v := ?_) ?_ ?_ ?_ ?_); rotate_left 1; (focus kernel_rfl); (focus (intro _; rfl)); (focus (intro β wx hSw; (try dsimp only at hSw); go_simp; (try with_reducible rfl); done)); (try simp only [Act.put, List.setIfInBounds_toArray, List.set_cons_zero, List.set_cons_succ, Nat.reduceAdd])) | ((with_reducible refine Flow.skip StayG.nil ?_ ?_ ?_); (focus kernel_rfl); (focus (intro _; rfl)); (try simp only [Act.put, List.setIfInBounds_toArray, List.set_cons_zero, List.set_cons_succ, Nat.reduceAdd])))
          ((with_reducible refine Flow.stop ?_); dsimp only; intro β w4 hI4)
          have HB4 := Lib.hid (HBR.out.trans (hI4.below.mono HBR.out.size))
          have hS4 := hS
          replace hS : ∀ wy : World, Below w4.heap.size w4 wy → wy.cell? ⟨w.heap.size, 1, none⟩ = some (.slice (some ⟨ab, ao, none⟩) n sc) ∧ wy.cell? ⟨w.heap.size + 1, 1, none⟩ = some (.slice (some ⟨bb, bo, none⟩) n sd) ∧ wy.cell? ⟨ab, ao + i, none⟩ = some (.int .i64 a) ∧ wy.cell? ⟨bb, bo + i, none⟩ = some (.int .i64 b) := fun wy hy => hS4 wy (hI4.below.trans (hy.mono hI4.below.size))
          clear hS4 hI4 x1 y1 cx cy
          go_upto_region 7 with fail
          rw [show (a != b) = true from by simpa using hab]
          clear e1 hab
          refine wp_flow_s [] [] (by kernel_rfl) (by kernel_rfl) (by kernel_rfl) ?_
          repeat (first | ((with_reducible refine Flow.pure hS StayG.nil (v := ?_) ?_ ?_ ?_ ?_); rotate_left 1; (focus kernel_rfl); (focus (intro _; rfl)); (focus (intro β wx hSw; (try dsimp only at hSw); go_simp; (try with_reducible rfl); done)); (try simp only [Act.put, List.setIfInBounds_toArray, List.set_cons_zero, List.set_cons_succ, Nat.reduceAdd])) | ((with_reducible refine Flow.skip StayG.nil ?_ ?_ ?_); (focus kernel_rfl); (focus (intro _; rfl)); (try simp only [Act.put, List.setIfInBounds_toArray, List.set_cons_zero, List.set_cons_succ, Nat.reduceAdd])))
          ((with_reducible refine Flow.call hS StayG.nil (v := ?_) ?_ ?_ ?_ ?_); rotate_left 1; (focus kernel_rfl); (focus (intro _; rfl)); (focus (intro β L wx hI hat hSw K' hK; (try dsimp only at hSw); go_simp; go_at_call 50; refine Calls.mono (sign_any _ _) ?_; rintro e w' ⟨rfl, rfl⟩; exact hK.out _ (Below.refl _ _))); (try simp only [Act.put, List.setIfInBounds_toArray, List.set_cons_zero, List.set_cons_succ, Nat.reduceAdd]))
          repeat (first | ((with_reducible refine Flow.pure hS StayG.nil (v := ?_) ?_ ?_ ?_ ?_); rotate_left 1; (focus kernel_rfl); (focus (intro _; rfl)); (focus (intro β wx hSw; (try dsimp only at hSw); go_simp; (try with_reducible rfl); done)); (try simp only [Act.put, List.setIfInBounds_toArray, List.set_cons_zero, List.set_cons_succ, Nat.reduceAdd])) | ((with_reducible refine Flow.skip StayG.nil ?_ ?_ ?_); (focus kernel_rfl); (focus (intro _; rfl)); (try simp only [Act.put, List.setIfInBounds_toArray, List.set_cons_zero, List.set_cons_succ, Nat.reduceAdd])))
          ((with_reducible refine Flow.stop ?_); dsimp only; intro β2 w5 hI5)
          have HB5 := Lib.hid (HB1.out.trans ((HB4.out.trans (hI5.below.mono HB4.out.size)).mono HB1.out.size))
          clear hS hI5
          rw [← HRE.out]
          go_wp2_with fail
          go_ret
          exact retB rfl HB5.out
      · obtain rfl : n = i := by omega
        have HR2 := Lib.hid (show r = or0 (cmpL (bitL xf) (bitL yf)) (cmpI xb yb) from by
          rw [HR1.out, HE.out]
          have h := cmpL_both (l := xs) (m := ys) (by have := HN.out; have := HNS.out; omega)
          rw [← HN.out] at h
          rw [h]
          rfl)
        have HBW := Lib.hid (HB1.out.trans (HBR.out.mono HB1.out.size))
        have HX2q := Lib.hid (cell_later HBR.out HX2.out)
        have HY2q := Lib.hid (cell_later HBR.out HY2.out)
        have HX3q := Lib.hid (cell_later HBR.out HX3.out)
        have HY3q := Lib.hid (cell_later HBR.out HY3.out)
        clear hi hgi hlt
        go_wp2_with fail
        clear x1 y1
        go_loopg [6] (m + 1) (fun gk v6 wr => ∃ i : Nat, i ≤ m ∧ gk + i = m + 1 ∧ v6 = .int .i64 i ∧ Below wq.heap.size wq wr ∧ cmpL (bitL xf) (bitL yf) = cmpL ((bitL xf).drop i) ((bitL yf).drop i))
        case atStart => exact ⟨0, by omega, by omega, rfl, Below.refl _ _, rfl⟩
        case round =>
          obtain ⟨i, hi, hgi, rfl, hbr, he⟩ := hrel
          obtain ⟨wz, hwz⟩ : ∃ wz, wz = wr := ⟨_, rfl⟩
          subst hwz
          have HE2 := Lib.hid he
          have HBZ := Lib.hid hbr
          have x2 := cell_later hbr HX2q.out
          have y2 := cell_later hbr HY2q.out
          have x3 := cell_later hbr HX3q.out
          have y3 := cell_later hbr HY3q.out
          clear he hbr
          by_cases hlt : i < m
          · obtain ⟨ab, ao, rfl, fp⟩ := HX.out.f.fam (show 0 < xf.length by have := HM.out; omega)
            obtain ⟨bb, bo, rfl, fq⟩ := HY.out.f.fam (show 0 < yf.length by have := HMF.out; omega)
            have cx := cell_later HBZ.out (cell_later HBW.out (fp i (show i < xf.length by have := HM.out; omega)))
            have cy := cell_later HBZ.out (cell_later HBW.out (fq i (show i < yf.length by have := HMF.out; omega)))
            obtain ⟨a, ha⟩ : ∃ a, a = bg xf i := ⟨_, rfl⟩
            obtain ⟨b, hb⟩ : ∃ b, b = bg yf i := ⟨_, rfl⟩
            simp only at cx cy
            rw [← ha] at cx
            rw [← hb] at cy
            have HST := Lib.hid (show cmpL (bitL xf) (bitL yf) = if cmpI (bitI a) (bitI b) = 0 then cmpL ((bitL xf).drop (i + 1)) ((bitL yf).drop (i + 1)) else cmpI (bitI a) (bitI b) from by
              have e1 : ig (bitL xf) i = bitI a := by rw [ha]; exact ig_bit (by have := HM.out; omega)
              have e2 : ig (bitL yf) i = bitI b := by rw [hb]; exact ig_bit (by have := HMF.out; omega)
              rw [HE2.out, ← e1, ← e2]
              exact cmpL_step (by have := HM.out; simp [bitL]; omega) (by have := HMF.out; simp [bitL]; omega))
            have i1 : (i : Int) < (m : Int) := by omega
            have i0 : (0 : Int) ≤ (i : Int) := by omega
            have HLT := Lib.hid hlt
            clear fp fq ha hb hlt hi
            have hS : ∀ wy : World, Below wz.heap.size wz wy → wy.cell? ⟨w.heap.size, 2, none⟩ = some (.slice (some ⟨ab, ao, none⟩) m fc) ∧ wy.cell? ⟨w.heap.size + 1, 2, none⟩ = some (.slice (some ⟨bb, bo, none⟩) m fd) ∧ wy.cell? ⟨ab, ao + i, none⟩ = some (.bool a) ∧ wy.cell? ⟨bb, bo + i, none⟩ = some (.bool b) := fun wy hy => ⟨cell_later hy x2, cell_later hy y2, cell_later hy cx, cell_later hy cy⟩
            by_cases hab : a = b
            · subst hab
              have HNX := Lib.hid (show cmpL (bitL xf) (bitL yf) = cmpL ((bitL xf).drop (i + 1)) ((bitL yf).drop (i + 1)) from by rw [HST.out, if_pos (cmpI_zero.2 rfl)])
              clear x3 y3
              go_upto_region 11 with fail
              refine wp_flow_s [] [] (by kernel_rfl) (by kernel_rfl) (by kernel_rfl) ?_
              repeat (first | ((with_reducible refine Flow.pure hS StayG.nil (v := ?_) ?_ ?_ ?_ ?_); rotate_left 1; (focus kernel_rfl); (focus (intro _; rfl)); (focus (intro β wx hSw; (try dsimp only at hSw); go_simp; (try with_reducible rfl); done)); (try simp only [Act.put, List.setIfInBounds_toArray, List.set_cons_zero, List.set_cons_succ, Nat.reduceAdd])) | ((with_reducible refine Flow.skip StayG.nil ?_ ?_ ?_); (focus kernel_rfl); (focus (intro _; rfl)); (try simp only [Act.put, List.setIfInBounds_toArray, List.set_cons_zero, List.set_cons_succ, Nat.reduceAdd])))
              ((with_reducible refine Flow.stop ?_); dsimp only; intro β w4 hI4)
              have HB4 := Lib.hid (HBZ.out.trans (hI4.below.mono HBZ.out.size))
              clear hS hI4 x2 y2 cx cy
              go_wp2_with fail
              go_roundg (m - i)
              case measure => have := HLT.out; omega
              case rel => exact ⟨i + 1, HLT.out, by have := HLT.out; omega, by go_num, HB4.out, HNX.out⟩
            · have HRE := Lib.hid (show r = sgnI b from by
                rw [HR2.out, HST.out]
                cases a <;> cases b <;> first | exact absurd rfl hab | rfl)
              have e1 : (a == b) = false := by simpa using hab
              clear x3 y3
              go_upto_region 11 with fail
              refine wp_flow_s [] [] (by kernel_rfl) (by kernel_rfl) (by kernel_rfl) ?_
              repeat (first | ((with_reducible refine Flow.pure hS StayG.nil (v := ?_) ?_ ?_ ?_ ?_); rotate_left 1; (focus kernel_rfl); (focus (intro _; rfl)); (focus (intro β wx hSw; (try dsimp only at hSw); go_simp; (try with_reducible rfl); done)); (try simp only [Act.put, List.setIfInBounds_toArray, List.set_cons_zero, List.set_cons_succ, Nat.reduceAdd])) | ((with_reducible refine Flow.skip StayG.nil ?_ ?_ ?_); (focus kernel_rfl); (focus (intro _; rfl)); (try simp only [Act.put, List.setIfInBounds_toArray, List.set_cons_zero, List.set_cons_succ, Nat.reduceAdd])))
              ((with_reducible refine Flow.stop ?_); dsimp only; intro β w4 hI4)
              have HB4 := Lib.hid (HBW.out.trans ((HBZ.out.trans (hI4.below.mono HBZ.out.size)).mono HBW.out.size))
              obtain ⟨z1, z2, z3, z4⟩ := hS w4 hI4.below
              clear hS hI4 x2 y2 cx cy
              go_wp2_with fail
              refine Calls.mono (sign_any b w4) ?_
              rintro e w5 ⟨rfl, rfl⟩
              rw [← HRE.out]
              go_wp2_with fail
              go_ret
              exact retB rfl HB4.out
          · obtain rfl : m = i := by omega
            have HR3 := Lib.hid (show r = cmpI xb yb from by
              rw [HR2.out, HE2.out]
              have h := cmpL_both (l := bitL xf) (m := bitL yf) (by have := HM.out; have := HMF.out; simp [bitL]; omega)
              rw [show (bitL xf).length = m by have := HM.out; simp [bitL]; omega] at h
              rw [h]
              rfl)
            have HBE := Lib.hid (HBW.out.trans (HBZ.out.mono HBW.out.size))
            clear hi hgi hlt
            by_cases hab : xb = yb
            · have e1 : (xb == yb) = true := by simpa using hab
              have e2 : r = 0 := by rw [HR3.out]; exact cmpI_zero.2 hab
              subst e2
              go_wp2_with fail
              go_ret
              exact retB rfl HBE.out
            · have e1 : (xb == yb) = false := by simpa using hab
              obtain ⟨B, hB⟩ : ∃ B, B = decide (xb < yb) := ⟨_, rfl⟩
              have f1 := hB.symm
              have HRE := Lib.hid (show r = sgnI B from by rw [HR3.out, hB, ← cmpI_sign hab])
              clear hB
              go_wp2_with fail
              refine Calls.mono (sign_any B wz) ?_
              rintro e w5 ⟨rfl, rfl⟩
              rw [← HRE.out]
              go_wp2_with fail
              go_ret
              exact retB rfl HBE.out
  · have ht2 : (xt == yt) = false := by simpa using ht
    obtain ⟨B, hB⟩ : ∃ B, B = decide (xt < yt) := ⟨_, rfl⟩
    have f1 := hB.symm
    have HRE := Lib.hid (show r = sgnI B from by
      rw [HR.out, hB, ← cmpI_sign ht]
      have := cmpI_cases xt yt
      unfold or0
      rw [if_neg (by omega)])
    clear hB
    go_wp2_with fail
    refine Calls.mono (sign_any B w1) ?_
    rintro e w2 ⟨rfl, rfl⟩
    rw [← HRE.out]
    go_wp2_with fail
    go_ret
    exact retB rfl HB1.out
/-- in order and of different states: strictly in order -/
theorem strict_of {l : List Pos} (hp : l.Pairwise (fun x y => ¬ cmpP y x < 0)) (hn : (l.map Pos.st).Nodup) : l.Pairwise (fun x y => cmpP x y < 0) := by
  have h2 : l.Pairwise (fun x y => x.st ≠ y.st) := List.pairwise_map.1 hn
  exact (hp.and h2).imp fun {x y} ⟨a, b⟩ => by
    have e := cmpP_tw.anti x y
    have z : cmpP x y ≠ 0 := fun h => b (cmpP_zero h)
    omega
end
section
open Go.RowKit

theorem copyE {α : Type} {E : El α} (W : World) (l : List α) (a : Option Addr) (c : Nat) (h : E.At W a l) (hl : l.length ≤ 100) (h0 : 0 < l.length) (ty : TypeId) :
    ∃ gb lc w7, (Builtin.append_ #[E.TS, E.TS] ty #[.slice (some ⟨W.heap.size, 0, none⟩) 0 0, .slice a l.length c]).run Try.prog (W.alloc (.cells #[] E.T)) = .ok (.slice (some ⟨gb, 0, none⟩) l.length lc) w7 ∧ E.Own w7 W.heap.size (.slice (some ⟨gb, 0, none⟩) l.length lc) l ∧ Below W.heap.size W w7 := by
  have hA := El.Own.lit (E := E) W W.heap.size (Nat.le_refl _) [] (by simp) #[] rfl
  have hbA : Below W.heap.size W (W.alloc (.cells #[] E.T)) := (Below.refl _ _).alloc (Nat.le_refl _) _
  obtain ⟨v1, w7, hr, ho, hg, _⟩ := El.app (E := E) _ W.heap.size _ [] l hA a c (h.later hbA) (by simp; omega) hbA.size ty
  rw [List.nil_append] at ho
  obtain ⟨la, lc, e1, _, _, _, hcase⟩ := ho.at
  have hlb : ∃ gb, la = some ⟨gb, 0, none⟩ := by
    rcases hcase with ⟨_, _, e⟩ | ⟨gb, e, _⟩
    · rw [e] at h0; simp at h0
    · exact ⟨gb, e⟩
  obtain ⟨gb, rfl⟩ := hlb
  subst e1
  exact ⟨gb, lc, w7, hr, ho, hbA.grown hg hbA.size fun b hb => (hA.lt b hb).1⟩
theorem stE {α : Type} {E : El α} {W5 W6 W7 : World} {O : Nat} {l : List α} {v1 : Value} {c : Value} {cs : List Value} (hb6 : Below W5.heap.size W5 W6) (hO : O = W5.heap.size) (hs6 : W6.heap.size = O + 1) (hx6 : BoxAt W6 O (c :: cs)) (k : Nat) (hk : k < (c :: cs).length) (hb7 : Below W6.heap.size W6 W7) (ho : E.Own W7 W6.heap.size v1 l) :
    Below W5.heap.size W5 (W7.setCell ⟨O, k, none⟩ v1) ∧ BoxAt (W7.setCell ⟨O, k, none⟩ v1) O ((c :: cs).set k v1) ∧ E.Own (W7.setCell ⟨O, k, none⟩ v1) (O + 1) v1 l :=
  ⟨(hb6.trans (hb7.mono (by omega))).setCell (p := ⟨O, k, none⟩) (show W5.heap.size ≤ O by omega) _, (hx6.later hb7).put k v1 hk, (ho.block fun b hb => heap_setCell_other W7 ⟨O, k, none⟩ b v1 (by have := (ho.lt b hb).1; intro e; have e' : b = O := e; omega)).mono (by omega)⟩
theorem flatB_set (l : List Bool) (q : Nat) (x : Bool) : (l.flatMap EB.cf).set q (.bool x) = (l.set q x).flatMap EB.cf := by
  rw [flatB, flatB, List.map_set]
theorem own_setB {w : World} {B g n cap : Nat} {l : List Bool} (h : EB.Own w B (.slice (some ⟨g, 0, none⟩) n cap) l) (q : Nat) (x : Bool) : EB.Own (w.setCell ⟨g, q, none⟩ (.bool x)) B (.slice (some ⟨g, 0, none⟩) n cap) (l.set q x) := by
  obtain ⟨a, c, e, _⟩ := h.at
  cases e
  have h1 := World.ownsRow.stored h q (.bool x)
  have h2 := h1.1
  unfold El.Own
  rw [flatB_set] at h2
  rw [List.length_set]
  exact h2
theorem ownB_cell {w : World} {B g n cap : Nat} {l : List Bool} (h : EB.Own w B (.slice (some ⟨g, 0, none⟩) n cap) l) {q : Nat} (hq : q < l.length) : w.cell? ⟨g, q, none⟩ = some (.bool (bg l q)) ∧ w.frozen? ⟨g, q, none⟩ = false := by
  constructor
  · obtain ⟨a, c, e, _, _, hat, _⟩ := h.at
    cases e
    obtain ⟨_, _, e2, cl⟩ := hat.bools q hq
    cases e2
    rwa [Nat.zero_add] at cl
  · obtain ⟨cur, hcur⟩ := h.ty (g := g) rfl
    simp [World.frozen?, hcur]
/-- one element of what Moves gives back -/
structure MdE (B : Nat) (w : World) (s : Pos) (sa fa : Option Addr) (x : PA) : Prop where
  a : x.2.1 = sa
  st : x.1.starts = s.starts
  f : (x.2.2.2.1 = fa ∧ x.1.failed = s.failed) ∨ EB.Own w B (.slice x.2.2.2.1 x.1.failed.length x.2.2.2.2) x.1.failed
theorem MdE.block {B : Nat} {w w' : World} {s : Pos} {sa fa : Option Addr} {x : PA} (h : MdE B w s sa fa x) (e : ∀ F, IsTy w F 4 → w'.heap[F]? = w.heap[F]?) : MdE B w' s sa fa x := by
  refine ⟨h.a, h.st, ?_⟩
  rcases h.f with hf | hf
  · exact .inl hf
  · exact .inr (hf.block fun g hg => e g (hf.ty hg))
theorem MdE.ps {B : Nat} {w : World} {s : Pos} {sa fa : Option Addr} {x : PA} (h : MdE B w s sa fa x) (hP : PsAt w s sa fa) : PsAt w x.1 x.2.1 x.2.2.2.1 := by
  refine ⟨?_, ?_⟩
  · rw [h.a, h.st]; exact hP.s
  · rcases h.f with ⟨e1, e2⟩ | hf
    · rw [e1, e2]; exact hP.f
    · obtain ⟨a, c, e, _, _, hat, _⟩ := hf.at
      cases e
      exact hat.bools
def RetMv (s : Pos) (w : World) (e : Ending) (w' : World) : Prop := ∃ a c l, e = .returned (.slice a l.length c) ∧ l.map (fun x : PA => x.1.st) = madeL s.st ∧ EQ.At w' a l ∧ PsAll w' l ∧ Below w.heap.size w w'
def hitU (s : St) (v : Nat) : List Nat := if 0 < s.budget then (List.range v).filter (fun v => !bg s.failed v) else []
theorem hitU_succ (s : St) (v : Nat) : hitU s (v + 1) = hitU s v ++ if 0 < s.budget ∧ bg s.failed v = false then [v] else [] := by
  unfold hitU
  by_cases h : 0 < s.budget
  · rw [if_pos h, if_pos h, List.range_succ, List.filter_append]
    cases hb : bg s.failed v <;> simp [h, hb]
  · rw [if_neg h, if_neg h, if_neg (fun e => h e.1)]
    rfl
theorem hitU_full (s : St) : hitU s s.failed.length = hits s := rfl
theorem hitU_none {s : St} (h : ¬ 0 < s.budget) (v : Nat) : hitU s v = hits s := by
  unfold hitU hits
  rw [if_neg h, if_neg h]
theorem hitU_len (s : St) (v : Nat) : (hitU s v).length ≤ v := by
  unfold hitU
  split
  · have := List.length_filter_le (fun v => !bg s.failed v) (List.range v)
    rw [List.length_range] at this
    exact this
  · simp
set_option maxRecDepth 100000 in
set_option maxHeartbeats 4000000 in
theorem rmoves_any (s : Pos) (sa fa : Option Addr) (sc fc : Nat) (w : World) (hP : PsAt w s sa fa) (hl : s.failed.length ≤ 50) (hb : s.budget ≤ 1000) :
    Calls Try.prog 21 #[psV s sa sc fa fc] w (RetMv s w) := by
  have HP := Lib.hid hP
  obtain ⟨nf, hnf⟩ : ∃ n, n = s.failed.length := ⟨_, rfl⟩
  obtain ⟨nl, hnl⟩ : ∃ n, n = s.starts.length := ⟨_, rfl⟩
  obtain ⟨bu, hbu⟩ : ∃ n, n = s.budget := ⟨_, rfl⟩
  obtain ⟨tu, htu⟩ : ∃ n, n = s.turn := ⟨_, rfl⟩
  obtain ⟨ch, hch⟩ : ∃ n, n = s.choice := ⟨_, rfl⟩
  obtain ⟨bo, hbo⟩ : ∃ n, n = s.bound := ⟨_, rfl⟩
  have HNF := Lib.hid hnf
  have HNL := Lib.hid hnl
  have HBU := Lib.hid hbu
  have HFS := Lib.hid (show s = ⟨tu, s.starts, s.failed, bu, ch, bo⟩ from by rw [htu, hbu, hch, hbo])
  rw [← hnf] at hl
  rw [← hbu] at hb
  unfold psV
  rw [← hnf, ← hnl, ← hbu, ← htu, ← hch, ← hbo]
  clear hP hnf hnl hbu htu hch hbo
  go_enter Try.func21, Try.ntmps21
  go_upto_region 1 with fail
  obtain ⟨x0, hx0⟩ : ∃ x0 : PA, x0 = (s, (sa, sc, fa, fc)) := ⟨_, rfl⟩
  have hcs0 : EQ.cf x0 = [.int .i64 tu, .slice sa nl sc, .slice fa nf fc, .int .i64 bu, .int .i64 ch, .int .i64 bo] := by
    rw [hx0, HFS.out, HNF.out, HNL.out]
    rfl
  refine wp_named ?_
  intro wX hwX
  obtain ⟨X, hX⟩ : ∃ X, X = w.heap.size := ⟨_, rfl⟩
  obtain ⟨hbX, hsX, hBX, _⟩ := alloc1 w [.int .i64 tu, .slice sa nl sc, .slice fa nf fc, .int .i64 bu, .int .i64 ch, .int .i64 bo] _ wX hwX
  rw [← hX] at hBX
  rw [← hX]
  have hown : EQ.Own (wX.alloc (.cells #[.int .i64 tu, .slice sa nl sc, .slice fa nf fc, .int .i64 bu, .int .i64 ch, .int .i64 bo] 40)) wX.heap.size (.slice (some ⟨wX.heap.size, 0, none⟩) 1 1) [x0] := El.Own.lit (E := EQ) wX wX.heap.size (Nat.le_refl _) [x0] (by simp) _ (by rw [List.flatMap_singleton, hcs0])
  have hbA : Below wX.heap.size wX (wX.alloc (.cells #[.int .i64 tu, .slice sa nl sc, .slice fa nf fc, .int .i64 bu, .int .i64 ch, .int .i64 bo] 40)) := (Below.refl _ _).alloc (Nat.le_refl _) _
  have HXL := Lib.hid (show X < wX.heap.size ∧ w.heap.size ≤ wX.heap.size from ⟨by omega, by omega⟩)
  have HM0 := Lib.hid (show ∀ wy, MdE wX.heap.size wy s sa fa x0 from fun wy => by rw [hx0]; exact ⟨rfl, rfl, .inl ⟨rfl, rfl⟩⟩)
  have HX0 := Lib.hid (show x0.1 = s from by rw [hx0])
  have HBX := Lib.hid hbX
  have HPX := Lib.hid (HP.out.later hbX)
  have HOWN := Lib.hid hown
  have HBA := Lib.hid hbA
  have HBXA := Lib.hid (hBX.later hbA)
  have z0 := (hBX 0 _ rfl).1
  have z1 := (hBX 1 _ rfl).1
  have z2 := (hBX 2 _ rfl).1
  have z3 := (hBX 3 _ rfl).1
  have z4 := (hBX 4 _ rfl).1
  have z5 := (hBX 5 _ rfl).1
  have zl : X < wX.heap.size := by omega
  clear hwX hx0 hcs0 hX hbX hBX hsX hown hbA
  go_upto_region 2 with fail
  clear z0 z1 z2 z3 z4 z5 zl
  go_wp2_with fail
  go_loopg [3, 4] (nf + 1) (fun k v3 v4 wr => ∃ (v : Nat) (l : List PA), v ≤ nf ∧ k + v = nf + 1 ∧ v4 = .int .i64 v ∧ Below wX.heap.size wX wr ∧ BoxAt wr X [.int .i64 tu, .slice sa nl sc, .slice fa nf fc, .int .i64 bu, .int .i64 ch, .int .i64 bo] ∧ EQ.Own wr wX.heap.size v3 l ∧ l.map (fun x : PA => x.1.st) = s.st :: (hitU s.st v).map (hit s.st) ∧ ∀ x ∈ l, MdE wX.heap.size wr s sa fa x)
  case atStart => exact ⟨0, [x0], by omega, by omega, rfl, HBA.out, HBXA.out, HOWN.out, by simp [hitU, HX0.out], fun x hx => by rw [List.mem_singleton.1 hx]; exact HM0.out _⟩
  case round =>
    obtain ⟨v, l, hv, hkv, rfl, hbr, hbx, hown, hmap, hmd⟩ := hrel
    obtain ⟨wq, hwq⟩ : ∃ wq, wq = wr := ⟨_, rfl⟩
    subst hwq
    obtain ⟨a, c, e3, hlc, hcm, hat, _⟩ := hown.at
    subst e3
    have HBR := Lib.hid hbr
    have HBXR := Lib.hid hbx
    have HOW := Lib.hid hown
    have HMAP := Lib.hid hmap
    have HMD := Lib.hid hmd
    have HAT := Lib.hid hat
    have y0 := (hbx 0 _ rfl).1
    have y1 := (hbx 1 _ rfl).1
    have y2 := (hbx 2 _ rfl).1
    have y3 := (hbx 3 _ rfl).1
    have y4 := (hbx 4 _ rfl).1
    have y5 := (hbx 5 _ rfl).1
    have hll : l.length ≤ 2000 := by
      have h := congrArg List.length hmap
      rw [List.length_map, List.length_cons, List.length_map] at h
      have := hitU_len s.st v
      omega
    have hfin : madeL s.st = s.st :: (hitU s.st v).map (hit s.st) → RetMv s w (.returned (.slice a l.length c)) wq := fun h =>
      ⟨a, c, l, rfl, hmap.trans h.symm, hat, fun x hx => (hmd x hx).ps (HPX.out.later hbr), HBX.out.trans (hbr.mono HXL.out.2)⟩
    have HFIN := Lib.hid hfin
    obtain ⟨ll, hll2⟩ : ∃ n, n = l.length := ⟨_, rfl⟩
    have HLL := Lib.hid hll2
    rw [← hll2] at hll ⊢
    clear hbr hbx hown hmap hmd hat hfin hll2 hlc hcm
    by_cases hlt : v < nf
    · have n1 : (v : Int) < (nf : Int) := by omega
      have n0 : (0 : Int) ≤ (v : Int) := by omega
      by_cases hb0 : 0 < bu
      · obtain ⟨fb, fo, rfl, hfc⟩ := (HPX.out.later HBR.out).f v (by have := HNF.out; omega)
        obtain ⟨d, hd⟩ : ∃ d, d = bg s.failed v := ⟨_, rfl⟩
        rw [← hd] at hfc
        have HSU := Lib.hid (hitU_succ s.st v)
        have HD := Lib.hid hd
        clear hd
        cases d
        · have hwb : IntKind.i64.wrap (bu - 1) = bu - 1 := IntWalk.i64_in _ (by omega)
          go_upto_region 7 with fail
          refine wp_named ?_
          intro w6 hw6
          obtain ⟨T, hT⟩ : ∃ O, O = wq.heap.size := ⟨_, rfl⟩
          obtain ⟨hb6, hs6, hx6, _⟩ := alloc1 wq [.int .i64 tu, .slice sa nl sc, .slice (some ⟨fb, fo, none⟩) nf fc, .int .i64 bu, .int .i64 ch, .int .i64 bo] 40 w6 hw6
          rw [← hT] at hx6 ⊢
          obtain ⟨gb, lc, w7, hr, ho, hb7⟩ := copyE (E := EB) w6 s.failed (some ⟨fb, fo, none⟩) fc (Bools.el (HPX.out.later (HBR.out.trans (hb6.mono HBR.out.size))).f) (by have := HNF.out; omega) (by have := HNF.out; omega) 38
          rw [← HNF.out] at hr ho
          obtain ⟨hb8, hx8, ho8⟩ := stE hb6 hT (by omega) hx6 2 (by simp) hb7 ho
          have hc7 := ((hx6.later hb7) 2 _ rfl).1
          have hf7 := ((hx6.later hb7) 2 _ rfl).2
          have y2' := cell_later hb6 y2
          have hlX : X < w6.heap.size := World.block_lt_of_cell? _ _ y2'
          have HR := Lib.hid hr
          have HX8 := Lib.hid hx8
          have HO8 := Lib.hid ho8
          have HB8 := Lib.hid hb8
          have HT := Lib.hid hT
          clear hr ho hb7 hb8 hx8 ho8 hx6 hw6 y0 y1 y2 y3 y4 y5 hs6 hb6 hT hfc
          go_upto_region 8 with (at_builtin; go_loud (refine wpList_app_eq rfl _ _ _ rfl _ _ rfl rfl HR.out ?_))
          refine wp_named ?_
          intro w8 hw8
          rw [← hw8] at HX8 HO8 HB8
          clear hw8 hc7 hf7 y2' hlX
          obtain ⟨cv, cf⟩ := ownB_cell HO8.out (q := v) (by have := HNF.out; omega)
          have q2 := (HX8.out 2 _ rfl).1
          have hgT : gb ≠ T := by have := (HO8.out.lt gb rfl).1; omega
          have HGT := Lib.hid hgT
          clear hgT
          go_upto_region 9 with fail
          refine wp_named ?_
          intro w9 hw9
          have hch9 : Chg (fun k => k = gb) w8 w9 := by rw [hw9]; exact Chg.setCell (S := fun k => k = gb) (Chg.refl _ _) (p := ⟨gb, v, none⟩) (fun _ => rfl) _
          have ho9 : EB.Own w9 (T + 1) (.slice (some ⟨gb, 0, none⟩) nf lc) (s.failed.set v true) := by rw [hw9]; exact own_setB HO8.out v true
          have hx9 := HX8.out.chg hch9 (fun e => HGT.out e.symm) HX8.out.lt
          have hb9 : Below wq.heap.size wq w9 := HB8.out.trans (hch9.below HB8.out.size fun k e => by have := (HO8.out.lt gb rfl).1; have := HT.out; omega)
          have q3 := (hx9 3 _ rfl).1
          have q3f := (hx9 3 _ rfl).2
          have HO9 := Lib.hid ho9
          have HX9 := Lib.hid hx9
          have HB9 := Lib.hid hb9
          clear hw9 hch9 ho9 hx9 hb9 cv cf q2
          go_upto_region 10 with fail
          refine wp_named ?_
          intro wA hwA
          have hxA : BoxAt wA T [.int .i64 tu, .slice sa nl sc, .slice (some ⟨gb, 0, none⟩) nf lc, .int .i64 (bu - 1), .int .i64 ch, .int .i64 bo] := by rw [hwA]; exact HX9.out.put 3 _ (by simp)
          have hchA : Chg (fun k => k = T) w9 wA := by rw [hwA]; exact Chg.setCell (S := fun k => k = T) (Chg.refl _ _) (p := ⟨T, 3, none⟩) (fun _ => rfl) _
          have hoA := HO9.out.block (w' := wA) fun b hb => hchA.block b (HO9.out.lt b hb).2 fun e => by have := (HO9.out.lt b hb).1; omega
          have hbA : Below wq.heap.size wq wA := HB9.out.trans (hchA.below HB9.out.size fun k e => by have := HT.out; omega)
          obtain ⟨x, hx⟩ : ∃ x : PA, x = (⟨tu, s.starts, s.failed.set v true, bu - 1, ch, bo⟩, (sa, sc, some ⟨gb, 0, none⟩, lc)) := ⟨_, rfl⟩
          have hcs : EQ.cf x = [.int .i64 tu, .slice sa nl sc, .slice (some ⟨gb, 0, none⟩) nf lc, .int .i64 (bu - 1), .int .i64 ch, .int .i64 bo] := by
            rw [hx, HNF.out, HNL.out]
            show [Value.int .i64 tu, Value.slice sa s.starts.length sc, Value.slice (some ⟨gb, 0, none⟩) (s.failed.set v true).length lc, Value.int .i64 (bu - 1), Value.int .i64 ch, Value.int .i64 bo] = _
            rw [List.length_set]
          have hxm : MdE wX.heap.size wA s sa (some ⟨fb, fo, none⟩) x := by
            rw [hx]
            refine ⟨rfl, rfl, .inr ?_⟩
            show EB.Own wA wX.heap.size (.slice (some ⟨gb, 0, none⟩) (s.failed.set v true).length lc) (s.failed.set v true)
            rw [List.length_set, ← HNF.out]
            exact hoA.mono (by have := HT.out; have := HBR.out.size; omega)
          have hxs : x.1.st = hit s.st v := by
            rw [hx, HBU.out, show tu = s.turn from congrArg Pos.turn HFS.out.symm]
            rfl
          have hbB : Below wA.heap.size wA (wA.alloc (.cells #[.int .i64 tu, .slice sa nl sc, .slice (some ⟨gb, 0, none⟩) nf lc, .int .i64 (bu - 1), .int .i64 ch, .int .i64 bo] 40)) := (Below.refl _ _).alloc (Nat.le_refl _) _
          have hoB := (HOW.out.later hbA).later hbB
          have hsz := hbA.size
          have hsr := HBR.out.size
          obtain ⟨v2, w2, hr2, ho2, hg2, _⟩ := El.app (E := EQ) _ wX.heap.size _ l [x] hoB (some ⟨wA.heap.size, 0, none⟩) 1 (El.at_lit' EQ wA [x] _ _ (by rw [List.flatMap_singleton, hcs])) (by have := HLL.out; simp; omega) (by simp; omega) 31
          rw [← HLL.out] at hr2
          simp only [List.length_cons, List.length_nil, Nat.zero_add] at hr2
          have hr0 : ∀ g, (Value.slice a l.length c).ownBlock = some g → wX.heap.size ≤ g := fun g hg => (HOW.out.lt g hg).1
          have HB2 := Lib.hid ((HBR.out.trans ((hbA.trans (hbB.mono hsz)).mono HBR.out.size)).grown hg2 (by simp; omega) hr0)
          have HBX2 := Lib.hid (((HBXR.out.later hbA).later hbB).block (hg2.block X (by have := HXL.out.1; simp; omega) (fun e => by have := hr0 X e.symm; have := HXL.out.1; omega)))
          have HMD2 := Lib.hid (show ∀ y ∈ l ++ [x], MdE wX.heap.size w2 s sa (some ⟨fb, fo, none⟩) y from fun y hy => by
            have h1 : MdE wX.heap.size wA s sa (some ⟨fb, fo, none⟩) y := by
              rcases List.mem_append.1 hy with hy | hy
              · exact (HMD.out y hy).block fun F' hF' => hbA.block F' hF'.lt
              · rw [List.mem_singleton.1 hy]
                exact hxm
            exact (h1.block fun F' hF' => hbB.block F' hF'.lt).block fun F' hF' => hg2.block F' hF'.lt fun e => absurd rfl ((hoB.ty e.symm).ne hF' (by decide)))
          have HMAP2 := Lib.hid (show (l ++ [x]).map (fun x : PA => x.1.st) = s.st :: (hitU s.st (v + 1)).map (hit s.st) from by
            rw [HSU.out, if_pos ⟨by show 0 < s.budget; rw [← HBU.out]; exact hb0, HD.out.symm⟩, List.map_append, List.map_append, HMAP.out]
            simp [hxs])
          have HO2 := Lib.hid ho2
          have HR2 := Lib.hid hr2
          have t0 := (hxA 0 _ rfl).1
          have t1 := (hxA 1 _ rfl).1
          have t2 := (hxA 2 _ rfl).1
          have t3 := (hxA 3 _ rfl).1
          have t4 := (hxA 4 _ rfl).1
          have t5 := (hxA 5 _ rfl).1
          clear hwA hxA hchA hoA hbA hx hcs hxm hxs hbB hoB hr2 ho2 hg2 hr0 hsz hsr q3 q3f
          go_wp2_with (at_builtin; go_loud (refine wpList_app_eq rfl _ _ _ rfl _ _ rfl rfl HR2.out ?_))
          go_roundg (nf - v)
          case measure => omega
          case rel => exact ⟨v + 1, l ++ [x], by omega, by omega, by go_num, HB2.out, HBX2.out, HO2.out, HMAP2.out, HMD2.out⟩
        · have HNH := Lib.hid (show hitU s.st (v + 1) = hitU s.st v from by
            rw [HSU.out, if_neg (fun e => by have h := e.2; rw [show s.st.failed = s.failed from rfl, ← HD.out] at h; cases h), List.append_nil])
          go_wp2_with fail
          go_roundg (nf - v)
          case measure => omega
          case rel => exact ⟨v + 1, l, by omega, by omega, by go_num, HBR.out, HBXR.out, by rw [HLL.out]; exact HOW.out, by rw [HNH.out]; exact HMAP.out, HMD.out⟩
      · have e1 : decide (0 < bu) = false := by simp; omega
        have HE := Lib.hid (HFIN.out (by rw [hitU_none (by show ¬ 0 < s.budget; rw [← HBU.out]; exact hb0)]; rfl))
        go_wp2_with fail
        go_ret
        rw [HLL.out]
        exact HE.out
    · obtain rfl : v = nf := by omega
      have HE := Lib.hid (HFIN.out (by rw [HNF.out]; rfl))
      clear y0 y1 y3 y4 y5
      go_wp2_with fail
      go_ret
      rw [HLL.out]
      exact HE.out
end
section
open Go.RowKit

def posN (p : Pos) (c : Int) : Pos := ⟨p.turn + 1, (afterS p.st c).starts, p.failed, p.budget, 0, 0⟩
theorem posN_st (p : Pos) (c : Int) : (posN p c).st = afterS p.st c := rfl
theorem posN_len (p : Pos) (c : Int) : (posN p c).starts.length = p.starts.length := by
  show (if 0 ≤ c then p.starts.set c.toNat (ig p.starts c.toNat - 1) else p.starts).length = _
  split
  · rw [List.length_set]
  · rfl
def RetNx (p : Pos) (c : Int) (fa : Option Addr) (fc : Nat) (w : World) (e : Ending) (w' : World) : Prop := ∃ sa sc, e = .returned (psV (posN p c) sa sc fa fc) ∧ PsAt w' (posN p c) sa fa ∧ Below w.heap.size w w'
set_option maxRecDepth 100000 in
set_option maxHeartbeats 4000000 in
theorem rnext_any (p : Pos) (c : Int) (sa fa : Option Addr) (sc fc : Nat) (w : World) (hP : PsAt w p sa fa) (hl : p.starts.length ≤ 50) (ht : 0 ≤ p.turn ∧ p.turn ≤ 1000)
    (hc : c = -1 ∨ ∃ k : Nat, c = k ∧ k < p.starts.length ∧ 0 ≤ ig p.starts k ∧ ig p.starts k ≤ 1000) :
    Calls Try.prog 24 #[psV p sa sc fa fc, .int .i64 c] w (RetNx p c fa fc w) := by
  have HP := Lib.hid hP
  have HC := Lib.hid hc
  have hw1 : IntKind.i64.wrap (p.turn + 1) = p.turn + 1 := IntWalk.i64_in _ (by omega)
  obtain ⟨t, het⟩ : ∃ t, t = p.turn := ⟨_, rfl⟩
  obtain ⟨ch, hch⟩ : ∃ ch, ch = p.choice := ⟨_, rfl⟩
  obtain ⟨n, hen⟩ : ∃ n, n = p.starts.length := ⟨_, rfl⟩
  obtain ⟨m, hem⟩ : ∃ n, n = p.failed.length := ⟨_, rfl⟩
  obtain ⟨bu, hbu⟩ : ∃ n, n = p.budget := ⟨_, rfl⟩
  obtain ⟨bo, hbo⟩ : ∃ n, n = p.bound := ⟨_, rfl⟩
  have HN := Lib.hid hen
  have HM := Lib.hid hem
  have HT := Lib.hid het
  have HBU := Lib.hid hbu
  have HW1 := Lib.hid hw1
  have HL := Lib.hid hl
  unfold psV
  rw [← het, ← hch, ← hen, ← hem, ← hbu, ← hbo]
  clear hP hc hw1 het hch hen hem hbu hbo hl ht
  go_enter Try.func24, Try.ntmps24
  go_upto_region 1 with fail
  refine wp_named ?_
  intro w1 hw1
  obtain ⟨hb1, hs1, ⟨hg, _⟩, hr, _⟩ := alloc2t w [.int .i64 t, .slice sa n sc, .slice fa m fc, .int .i64 bu, .int .i64 ch, .int .i64 bo] [.int .i64 0, .slice none 0 0, .slice none 0 0, .int .i64 0, .int .i64 0, .int .i64 0] _ _ w1 hw1
  have HB := Lib.hid hb1
  have HS1 := Lib.hid hs1
  have HR := Lib.hid hr
  have b0 := (hg 0 _ rfl).1
  have b1 := (hg 1 _ rfl).1
  have b2 := (hg 2 _ rfl).1
  have b3 := (hg 3 _ rfl).1
  have HI := Lib.hid (HP.out.s.later hb1)
  clear hw1 hb1 hs1 hg hr
  have hwt : IntKind.i64.wrap (t + 1) = t + 1 := by rw [HT.out]; exact HW1.out
  obtain ⟨fin, hfin⟩ : ∃ fin : Value → List Value, fin = fun v => [.int .i64 (t + 1), v, .slice fa m fc, .int .i64 bu, .int .i64 0, .int .i64 0] := ⟨_, rfl⟩
  have HFIN := Lib.hid (show ∀ v, fin v = [.int .i64 (t + 1), v, .slice fa m fc, .int .i64 bu, .int .i64 0, .int .i64 0] from fun v => by rw [hfin])
  refine wp_flow_j (fun β L' w' => AfJ w1 p.starts [.int .i64 0, .slice none 0 0, .slice none 0 0, .int .i64 0, .int .i64 0, .int .i64 0] fin (β 3) (β 6) (β 12) (L' 3) (L' 6) (L' 12) (L' 13) w') (by kernel_rfl) (by kernel_rfl) ?h0 ?_
  case h0 => exact ⟨(Below.refl _ _).drew, fun e => (by cases e), fun e => (by cases e), fun e => (by cases e)⟩
  clear hfin
  iterate 3 (((with_reducible refine FlowJ.pure (v := ?_) ?_ ?_ ?_ ?_); rotate_left 1; (focus (intro _; rfl)); (focus (intro β L' w' hJ hat; (try dsimp only at hJ); (try dsimp only); simpa only [setL, Nat.reduceEqDiff, if_false] using hJ)); (focus (intro β L' w' hJ hat; (try dsimp only at hJ); (have y0 := cell_later hJ.low b0); go_simp; (try with_reducible rfl); done)); (try simp only [Act.put, List.setIfInBounds_toArray, List.set_cons_zero, List.set_cons_succ, Nat.reduceAdd])))
  ((with_reducible refine FlowJ.ghost ?_ ?_ ?_); (focus (intro _; rfl)); (focus (intro β L' w' hJ hat K' hK; (try dsimp only at hJ); ((have n6 := hat.not (j := 6) (by kernel_rfl)); (have n13 := hat.not (j := 13) (by kernel_rfl)); have un := hat.un; simp only [un, n6, n13] at hJ; go_simp; refine hK.out _ _ ?_; simp only [updG, setL, Nat.reduceEqDiff, if_true, if_false, n6, n13]; exact hJ.made))); (try simp only [Act.put, List.setIfInBounds_toArray, List.set_cons_zero, List.set_cons_succ, Nat.reduceAdd]))
  iterate 2 (((with_reducible refine FlowJ.pure (v := ?_) ?_ ?_ ?_ ?_); rotate_left 1; (focus (intro _; rfl)); (focus (intro β L' w' hJ hat; (try dsimp only at hJ); (try dsimp only); simpa only [setL, Nat.reduceEqDiff, if_false] using hJ)); (focus (intro β L' w' hJ hat; (try dsimp only at hJ); (have y0 := cell_later hJ.low b1); go_simp; (try with_reducible rfl); done)); (try simp only [Act.put, List.setIfInBounds_toArray, List.set_cons_zero, List.set_cons_succ, Nat.reduceAdd])))
  ((with_reducible refine FlowJ.ghost ?_ ?_ ?_); (focus (intro _; rfl)); (focus (intro β L' w' hJ hat K' hK; (try dsimp only at hJ); ((have p3 := hat.pre 3 (by kernel_rfl)); (have n13 := hat.not (j := 13) (by kernel_rfl)); have un := hat.un; simp only [un, p3, n13] at hJ; obtain ⟨v', w2, hr, ho, hg, hnn⟩ := El.app (E := EI) w' w1.heap.size (β 3) [] p.starts (hJ.e3 rfl rfl) sa sc (Ints.el (HI.out.later hJ.low)) (by have := HL.out; simp; omega) hJ.low.size 22; rw [← HN.out] at hr; refine wp_app_eq (.tmp 9) (.tmp 11) 22 rfl _ _ rfl rfl hr ?_; refine hK.out _ _ ?_; simp only [updG, setL, Nat.reduceEqDiff, if_true, if_false, p3, n13]; exact hJ.app (by simpa using ho) hg hnn))); (try simp only [Act.put, List.setIfInBounds_toArray, List.set_cons_zero, List.set_cons_succ, Nat.reduceAdd]))
  iterate 2 (((with_reducible refine FlowJ.pure (v := ?_) ?_ ?_ ?_ ?_); rotate_left 1; (focus (intro _; rfl)); (focus (intro β L' w' hJ hat; (try dsimp only at hJ); (try dsimp only); simpa only [setL, Nat.reduceEqDiff, if_false] using hJ)); (focus (intro β L' w' hJ hat; (try dsimp only at hJ); (have y0 := cell_later hJ.low b2); go_simp; (try with_reducible rfl); done)); (try simp only [Act.put, List.setIfInBounds_toArray, List.set_cons_zero, List.set_cons_succ, Nat.reduceAdd])))
  iterate 2 (((with_reducible refine FlowJ.pure (v := ?_) ?_ ?_ ?_ ?_); rotate_left 1; (focus (intro _; rfl)); (focus (intro β L' w' hJ hat; (try dsimp only at hJ); (try dsimp only); simpa only [setL, Nat.reduceEqDiff, if_false] using hJ)); (focus (intro β L' w' hJ hat; (try dsimp only at hJ); (have y0 := cell_later hJ.low b3); go_simp; (try with_reducible rfl); done)); (try simp only [Act.put, List.setIfInBounds_toArray, List.set_cons_zero, List.set_cons_succ, Nat.reduceAdd])))
  refine FlowJ.pureG (v := fun β => .agg #[.int .i64 (t + 1), β 6, .slice fa m fc, .int .i64 bu, .int .i64 0, .int .i64 0]) (fun β k b hk => ?_) (fun β b => rfl) (fun _ => rfl) (fun β L' w' hJ hat => by simpa only [setL, Nat.reduceEqDiff, if_false] using hJ) (fun β L' w' hJ hat => ?_) ?_
  · have : updG β k b 6 = β 6 := updG_ne β b fun e => by subst e; exact Bool.false_ne_true (hk.symm.trans (by kernel_rfl))
    simp only [this]
  · have p6 := hat.pre 6 (by kernel_rfl)
    obtain ⟨oa, na, c2, e6⟩ := (hJ.e6 p6).shape
    rw [e6]
    clear hJ
    go_simp
    (try with_reducible rfl); done
  (try simp only [Act.put, List.setIfInBounds_toArray, List.set_cons_zero, List.set_cons_succ, Nat.reduceAdd])
  ((with_reducible refine FlowJ.ghost ?_ ?_ ?_); (focus (intro _; rfl)); (focus (intro β L' w' hJ hat K' hK; (try dsimp only at hJ); ((have n13 := hat.not (j := 13) (by kernel_rfl)); have un := hat.un; simp only [un, n13] at hJ; go_simp; refine hK.out _ _ ?_; simp only [updG, setL, Nat.reduceEqDiff, if_true, if_false, n13]; exact hJ.new (o := [.int .i64 0, .slice none 0 0, .slice none 0 0, .int .i64 0, .int .i64 0, .int .i64 0]) rfl))); (try simp only [Act.put, List.setIfInBounds_toArray, List.set_cons_zero, List.set_cons_succ, Nat.reduceAdd]))
  ((with_reducible refine FlowJ.eff ?_ ?_ ?_); (focus (intro _; rfl)); (focus (intro β L' w' hJ hat K' hK; (try dsimp only at hJ); ((have p12 := hat.pre 12 (by kernel_rfl)); (have p11 := hat.pre 11 (by kernel_rfl)); have p6 := hat.down 11 6 p11 (by decide) (by kernel_rfl); have p3 := hat.down 6 3 p6 (by decide) (by kernel_rfl); have un := hat.un; simp only [un, p3, p6, p12] at hJ; obtain ⟨oa, na, c2, e6⟩ := (hJ.e6 rfl).shape; obtain ⟨b, e12, hb1, hb2, hbx, hn3, hn6⟩ := hJ.bx rfl; simp only [Bool.false_eq_true, if_false] at hbx; obtain ⟨c0, f0⟩ := hbx 0 _ rfl; obtain ⟨c1, f1⟩ := hbx 1 _ rfl; obtain ⟨c2', f2⟩ := hbx 2 _ rfl; obtain ⟨c3, f3⟩ := hbx 3 _ rfl; obtain ⟨c4, f4⟩ := hbx 4 _ rfl; obtain ⟨c5, f5⟩ := hbx 5 _ rfl; have hd := hJ.done (by intro v; rw [HFIN.out]; rfl) e12; rw [HFIN.out] at hd; simp only [World.setCells, Nat.zero_add, Nat.reduceAdd] at hd; rw [e6, e12]; rw [e6] at hd; go_simp; rw [← e6, ← e12]; rw [← e6] at hd; refine hK.out _ ?_; simp only [setL, Nat.reduceEqDiff, if_true, if_false, p3, p6, p12]; exact hd))); (try simp only [Act.put, Nat.reduceAdd]))
  refine FlowJ.stop ?_
  dsimp only
  intro β w5 hJ
  obtain ⟨b, e12, hb1, hb2, hxw, _, hne⟩ := hJ.bx rfl
  have ho := hJ.e6 rfl
  have hl5 := hJ.low
  have hne := hne rfl
  obtain ⟨oa, c2, e6, _⟩ := ho.at
  rw [← HN.out] at e6
  rw [e6] at ho hne
  simp only [if_true] at hxw
  rw [HFIN.out, e6] at hxw
  rw [e12, e6]
  have hrw := HR.out.later hl5
  have hbw : Below w.heap.size w w5 := HB.out.trans (hl5.mono HB.out.size)
  have hRb : b ≠ w.heap.size + 1 := by have := HS1.out; omega
  have HBO := Lib.hid (show w1.heap.size ≤ b from hb1)
  clear hJ b0 b1 b2 b3 hl5 e12 e6 hwt hb1 hb2
  rcases HC.out with rfl | ⟨k, rfl, hk, hu0, hu1⟩
  · have how := ho
    have HSS := Lib.hid (show p.starts = (posN p (-1)).starts from rfl)
    clear ho hne
    have HRX := Lib.hid hrw
    have c0 := (hxw 0 _ rfl).1
    have c1 := (hxw 1 _ rfl).1
    have c2' := (hxw 2 _ rfl).1
    have c3 := (hxw 3 _ rfl).1
    have c4 := (hxw 4 _ rfl).1
    have c5 := (hxw 5 _ rfl).1
    obtain ⟨r0, g0⟩ := hrw 0 _ rfl
    obtain ⟨r1, g1⟩ := hrw 1 _ rfl
    obtain ⟨r2, g2⟩ := hrw 2 _ rfl
    obtain ⟨r3, g3⟩ := hrw 3 _ rfl
    obtain ⟨r4, g4⟩ := hrw 4 _ rfl
    obtain ⟨r5, g5⟩ := hrw 5 _ rfl
    have HOX := Lib.hid how
    have HBX := Lib.hid hbw
    clear hrw hxw how hbw
    go_wp2_with fail
    obtain ⟨w6, hw6⟩ : ∃ w6, w6 = (w5).setCells (w.heap.size + 1) 0 [.int .i64 (t + 1), .slice oa n c2, .slice fa m fc, .int .i64 bu, .int .i64 0, .int .i64 0] := ⟨_, rfl⟩
    have hb6 : Below w.heap.size w w6 := by rw [hw6]; exact below_setCells _ _ _ _ HBX.out (by omega)
    have ho6 : EI.Own w6 w1.heap.size (.slice oa n c2) (p.starts) := by
      rw [hw6]
      exact World.ownsRow.kept HOX.out (grown_setCells _ _ _ _) (.inr fun e => by have := (HOX.out.lt _ e).1; have := HS1.out; omega)
    have hr6 : BoxAt w6 (w.heap.size + 1) [.int .i64 (t + 1), .slice oa n c2, .slice fa m fc, .int .i64 bu, .int .i64 0, .int .i64 0] := by
      rw [hw6]
      exact HRX.out.stored rfl
    simp only [World.setCells, Nat.zero_add, Nat.reduceAdd] at hw6
    rw [← hw6]
    have q0 := (hr6 0 _ rfl).1
    have q1 := (hr6 1 _ rfl).1
    have q2 := (hr6 2 _ rfl).1
    have q3 := (hr6 3 _ rfl).1
    have q4 := (hr6 4 _ rfl).1
    have q5 := (hr6 5 _ rfl).1
    refine bodyPost_ret (v := .agg #[.int .i64 (t + 1), .slice oa n c2, .slice fa m fc, .int .i64 bu, .int .i64 0, .int .i64 0]) (by simp [results, go_sem, q0, q1, q2, q3, q4, q5]) rfl ?_
    refine ⟨oa, c2, ?_, ⟨?_, HP.out.f.later hb6⟩, hb6⟩
    · unfold psV
      rw [posN_len, HT.out, HN.out, HM.out, HBU.out]
      rfl
    · rw [← HSS.out]
      obtain ⟨_, _, e9, _, _, hat9, _⟩ := ho6.at
      rw [(Value.slice.inj e9).1]
      exact hat9.ints
  · obtain ⟨la, lc, hlv, _, _, hat, hcase⟩ := ho.at
    have hlb : ∃ gb, la = some ⟨gb, 0, none⟩ := by
      rcases hcase with ⟨_, _, e⟩ | ⟨gb, e, _⟩
      · rw [e] at hk; simp at hk
      · exact ⟨gb, e⟩
    obtain ⟨gb, rfl⟩ := hlb
    obtain ⟨_, _, e2, cl⟩ := hat.ints k hk
    cases e2
    rw [Nat.zero_add] at cl
    obtain ⟨rfl, -, rfl⟩ := Value.slice.inj hlv
    have clf : w5.frozen? ⟨gb, k, none⟩ = false := by
      obtain ⟨cur, hcur⟩ := ho.ty (g := gb) rfl
      simp [World.frozen?, hcur]
    obtain ⟨u, hu⟩ : ∃ u, u = ig p.starts k := ⟨_, rfl⟩
    rw [← hu] at cl hu0 hu1
    have wr1 : IntKind.i64.wrap (u - 1) = u - 1 := IntWalk.i64_in _ (by omega)
    have y1 : (k : Int) < (n : Int) := by have := HN.out; omega
    have y0 : (0 : Int) ≤ (k : Int) := by omega
    have HSS := Lib.hid (show p.starts.set k (u - 1) = (posN p k).starts from by
      show _ = (if 0 ≤ (k : Int) then p.starts.set (k : Int).toNat (ig p.starts (k : Int).toNat - 1) else p.starts)
      rw [if_pos (by omega), hu]
      rfl)
    have hgb : gb ≠ b := fun e => hne (by rw [e]; rfl)
    have HO5 := Lib.hid ho
    have HX5 := Lib.hid hxw
    have HR5 := Lib.hid hrw
    have HB5 := Lib.hid hbw
    have HGB := Lib.hid hgb
    have o1 := (hxw 1 _ rfl).1
    clear ho hne hat hcase hlv hu hk hu0 hu1 hxw hrw hbw hgb
    go_upto_region 4 with fail
    refine wp_named ?_
    intro wg hwg
    have hgl := (HO5.out.lt gb rfl).1
    have hch : Chg (fun k => k = gb) w5 wg := by rw [hwg]; exact Chg.setCell (S := fun k => k = gb) (Chg.refl _ _) (p := ⟨gb, k, none⟩) (fun _ => rfl) _
    have how : EI.Own wg w1.heap.size (.slice (some ⟨gb, 0, none⟩) n c2) (p.starts.set k (u - 1)) := by rw [hwg]; exact own_set HO5.out k (u - 1)
    have hxw := HX5.out.chg hch (fun e => HGB.out e.symm) HX5.out.lt
    have hrw := HR5.out.chg hch (by have := HS1.out; omega) HR5.out.lt
    have hbw : Below w.heap.size w wg := HB5.out.trans (hch.below HB5.out.size fun k e => by have := HS1.out; omega)
    clear hwg hch cl clf o1 hgl wr1 y1 y0
    obtain ⟨oa, hoa⟩ : ∃ x, x = (some ⟨gb, 0, none⟩ : Option Addr) := ⟨_, rfl⟩
    rw [← hoa] at how hxw
    clear hoa
    have HRX := Lib.hid hrw
    have c0 := (hxw 0 _ rfl).1
    have c1 := (hxw 1 _ rfl).1
    have c2' := (hxw 2 _ rfl).1
    have c3 := (hxw 3 _ rfl).1
    have c4 := (hxw 4 _ rfl).1
    have c5 := (hxw 5 _ rfl).1
    obtain ⟨r0, g0⟩ := hrw 0 _ rfl
    obtain ⟨r1, g1⟩ := hrw 1 _ rfl
    obtain ⟨r2, g2⟩ := hrw 2 _ rfl
    obtain ⟨r3, g3⟩ := hrw 3 _ rfl
    obtain ⟨r4, g4⟩ := hrw 4 _ rfl
    obtain ⟨r5, g5⟩ := hrw 5 _ rfl
    have HOX := Lib.hid how
    have HBX := Lib.hid hbw
    clear hrw hxw how hbw
    go_wp2_with fail
    obtain ⟨w6, hw6⟩ : ∃ w6, w6 = (wg).setCells (w.heap.size + 1) 0 [.int .i64 (t + 1), .slice oa n c2, .slice fa m fc, .int .i64 bu, .int .i64 0, .int .i64 0] := ⟨_, rfl⟩
    have hb6 : Below w.heap.size w w6 := by rw [hw6]; exact below_setCells _ _ _ _ HBX.out (by omega)
    have ho6 : EI.Own w6 w1.heap.size (.slice oa n c2) ((p.starts.set k (u - 1))) := by
      rw [hw6]
      exact World.ownsRow.kept HOX.out (grown_setCells _ _ _ _) (.inr fun e => by have := (HOX.out.lt _ e).1; have := HS1.out; omega)
    have hr6 : BoxAt w6 (w.heap.size + 1) [.int .i64 (t + 1), .slice oa n c2, .slice fa m fc, .int .i64 bu, .int .i64 0, .int .i64 0] := by
      rw [hw6]
      exact HRX.out.stored rfl
    simp only [World.setCells, Nat.zero_add, Nat.reduceAdd] at hw6
    rw [← hw6]
    have q0 := (hr6 0 _ rfl).1
    have q1 := (hr6 1 _ rfl).1
    have q2 := (hr6 2 _ rfl).1
    have q3 := (hr6 3 _ rfl).1
    have q4 := (hr6 4 _ rfl).1
    have q5 := (hr6 5 _ rfl).1
    refine bodyPost_ret (v := .agg #[.int .i64 (t + 1), .slice oa n c2, .slice fa m fc, .int .i64 bu, .int .i64 0, .int .i64 0]) (by simp [results, go_sem, q0, q1, q2, q3, q4, q5]) rfl ?_
    refine ⟨oa, c2, ?_, ⟨?_, HP.out.f.later hb6⟩, hb6⟩
    · unfold psV
      rw [posN_len, HT.out, HN.out, HM.out, HBU.out]
      rfl
    · rw [← HSS.out]
      obtain ⟨_, _, e9, _, _, hat9, _⟩ := ho6.at
      rw [(Value.slice.inj e9).1]
      exact hat9.ints
end
section
open Go.RowKit

theorem cmpI_self (a : Int) : cmpI a a = 0 := cmpI_zero.2 rfl
theorem cmpL_self : ∀ l : List Int, cmpL l l = 0
  | [] => rfl
  | a :: l => by
    unfold cmpL
    rw [if_pos (cmpI_self a)]
    exact cmpL_self l
theorem cmpP_of {p q : Pos} (h : p.st = q.st) : cmpP p q = 0 := by
  unfold Pos.st at h
  simp only [St.mk.injEq] at h
  obtain ⟨h1, h2, h3, h4⟩ := h
  unfold cmpP
  rw [h1, h2, h3, h4, cmpI_self, cmpL_self, cmpL_self, cmpI_self]
  rfl
/-- the plan as it lies -/
structure LiI (n m : Nat) (w : World) (a : Option Addr) (l : List PA) : Prop where
  at' : EQ.At w a l
  ps : PsAll w l
  len : ∀ x ∈ l, x.1.starts.length = n ∧ x.1.failed.length = m
theorem LiI.later {n m : Nat} {w w' : World} {a : Option Addr} {l : List PA} (h : LiI n m w a l) (hb : Below w.heap.size w w') : LiI n m w' a l := ⟨h.at'.later hb, h.ps.later hb, h.len⟩
theorem uniq_of : ∀ {l : List PA}, (l.map fun x : PA => x.1.st).Nodup → ∀ x ∈ l, ∀ y ∈ l, x.1.st = y.1.st → x = y
  | [], _, x, hx, _, _, _ => by cases hx
  | a :: l, h, x, hx, y, hy, e => by
    rw [List.map_cons, List.nodup_cons] at h
    rcases List.mem_cons.1 hx with hx1 | hx1
    · rcases List.mem_cons.1 hy with hy1 | hy1
      · rw [hx1, hy1]
      · exact absurd (List.mem_map.2 ⟨y, hy1, by rw [← e, hx1]⟩) h.1
    · rcases List.mem_cons.1 hy with hy1 | hy1
      · exact absurd (List.mem_map.2 ⟨x, hx1, by rw [e, hy1]⟩) h.1
      · exact uniq_of h.2 x hx1 y hy1 e
set_option maxRecDepth 100000 in
set_option maxHeartbeats 4000000 in
theorem lfind_any (n m : Nat) (a : Option Addr) (c : Nat) (l : List PA) (p : PA) (w : World) (hL : LiI n m w a l) (hll : l.length ≤ 100000000000) (hP : PsAt w p.1 p.2.1 p.2.2.2.1) (hn : p.1.starts.length = n) (hm : p.1.failed.length = m) (hb : n ≤ 1000 ∧ m ≤ 1000) (z : PA) (hin : z ∈ l ∧ z.1.st = p.1.st ∧ ∀ x ∈ l, x.1.st = p.1.st → x = z) :
    Calls Try.prog 22 #[.slice a l.length c, .agg (psCs p).toArray] w (RetB (.tuple #[.agg (psCs z).toArray, .bool true]) w) := by
  obtain ⟨⟨pt, ps, pf, pb, pc, pd⟩, sa, sc, fa, fc⟩ := p
  simp only at hn hm hP hin
  have hpc : (psCs (⟨pt, ps, pf, pb, pc, pd⟩, sa, sc, fa, fc) : List Value) = [.int .i64 pt, .slice sa n sc, .slice fa m fc, .int .i64 pb, .int .i64 pc, .int .i64 pd] := by rw [← hn, ← hm]
  rw [hpc]
  obtain ⟨ll, hll2⟩ : ∃ n, n = l.length := ⟨_, rfl⟩
  rw [← hll2] at hll ⊢
  have hrc : ∀ x ∈ l, ∀ wy, Below w.heap.size w wy → Calls Try.prog 23 #[.agg #[.int .i64 x.1.turn, .slice x.2.1 n x.2.2.1, .slice x.2.2.2.1 m x.2.2.2.2, .int .i64 x.1.budget, .int .i64 x.1.choice, .int .i64 x.1.bound], .agg #[.int .i64 pt, .slice sa n sc, .slice fa m fc, .int .i64 pb, .int .i64 pc, .int .i64 pd]] wy (RetB (.int .i64 (cmpP x.1 ⟨pt, ps, pf, pb, pc, pd⟩)) wy) := fun x hx wy hy => by
    obtain ⟨h1, h2⟩ := hL.len x hx
    have h := rcmp_any x (⟨pt, ps, pf, pb, pc, pd⟩, sa, sc, fa, fc) wy (((hL.later hy).ps) x hx) (hP.later hy) (by show ps.length = _; rw [hn, h1]) (by show pf.length = _; rw [hm, h2]) (by rw [h1, h2]; exact hb)
    rw [hpc, show psCs x = [.int .i64 x.1.turn, .slice x.2.1 n x.2.2.1, .slice x.2.2.2.1 m x.2.2.2.2, .int .i64 x.1.budget, .int .i64 x.1.choice, .int .i64 x.1.bound] from by rw [← h1, ← h2]] at h
    exact h
  have HRC := Lib.hid hrc
  have HL := Lib.hid hL
  have HLL := Lib.hid hll2
  have HIN := Lib.hid hin
  have HST := Lib.hid (show (⟨pt, ps, pf, pb, pc, pd⟩ : Pos).st = (⟨pt, ps, pf, pb, pc, pd⟩ : Pos).st from rfl)
  clear hpc hll2 hrc hL hP hn hm hb hin
  go_enter Try.func22, Try.ntmps22
  go_upto_region 1 with fail
  refine wp_named ?_
  intro w1 hw1
  obtain ⟨hb1, hs1, ⟨hg, _⟩, hr, _⟩ := alloc2t w [.int .i64 pt, .slice sa n sc, .slice fa m fc, .int .i64 pb, .int .i64 pc, .int .i64 pd] [.int .i64 0, .slice none 0 0, .slice none 0 0, .int .i64 0, .int .i64 0, .int .i64 0] _ _ w1 hw1
  have HB1 := Lib.hid hb1
  have HG := Lib.hid hg
  have HR := Lib.hid hr
  clear hw1 hb1 hs1 hg hr
  go_wp2_with fail
  go_loopg [6] (ll + 1) (fun k v6 wr => ∃ i : Nat, i ≤ ll ∧ k + i = ll + 1 ∧ v6 = .int .i64 i ∧ Below w1.heap.size w1 wr ∧ ∀ j (h : j < l.length), j < i → ¬ cmpP l[j].1 ⟨pt, ps, pf, pb, pc, pd⟩ = 0)
  case atStart => exact ⟨0, by omega, by omega, rfl, Below.refl _ _, fun j _ h => by omega⟩
  case round =>
    obtain ⟨i, hi, hki, rfl, hbr, hno⟩ := hrel
    obtain ⟨wq, hwq⟩ : ∃ wq, wq = wr := ⟨_, rfl⟩
    subst hwq
    have HBR := Lib.hid hbr
    have HNO := Lib.hid hno
    clear hbr hno
    by_cases hlt : i < ll
    · have hiL : i < l.length := by have := HLL.out; omega
      have hbw := HB1.out.trans (HBR.out.mono HB1.out.size)
      have hLq := HL.out.later hbw
      obtain ⟨b, off, rfl, _⟩ := hLq.at'.head (by omega)
      have hrng := hLq.at'.range hiL
      rw [show off + i * EQ.S = off + i * 6 from rfl] at hrng
      have hcl := HRC.out l[i] (List.getElem_mem hiL)
      have hmem := List.getElem_mem hiL
      have hlen := HL.out.len l[i] hmem
      have hno2 := HNO.out
      obtain ⟨x, hx⟩ : ∃ x, x = l[i] := ⟨_, rfl⟩
      rw [← hx] at hrng hcl hmem hlen
      have x0 := hrng 0 _ rfl
      have x1 := hrng 1 _ rfl
      have x2 := hrng 2 _ rfl
      have x3 := hrng 3 _ rfl
      have x4 := hrng 4 _ rfl
      have x5 := hrng 5 _ rfl
      rw [Nat.add_zero] at x0
      rw [hlen.1] at x1
      rw [hlen.2] at x2
      obtain ⟨g0, g1, g2, g3, g4, g5⟩ : wq.cell? ⟨w.heap.size, 0, none⟩ = some (.int .i64 pt) ∧ wq.cell? ⟨w.heap.size, 1, none⟩ = some (.slice sa n sc) ∧ wq.cell? ⟨w.heap.size, 2, none⟩ = some (.slice fa m fc) ∧ wq.cell? ⟨w.heap.size, 3, none⟩ = some (.int .i64 pb) ∧ wq.cell? ⟨w.heap.size, 4, none⟩ = some (.int .i64 pc) ∧ wq.cell? ⟨w.heap.size, 5, none⟩ = some (.int .i64 pd) := by
        have h := HG.out.later HBR.out
        exact ⟨(h 0 _ rfl).1, (h 1 _ rfl).1, (h 2 _ rfl).1, (h 3 _ rfl).1, (h 4 _ rfl).1, (h 5 _ rfl).1⟩
      obtain ⟨r, hr⟩ : ∃ r, r = cmpP x.1 ⟨pt, ps, pf, pb, pc, pd⟩ := ⟨_, rfl⟩
      rw [← hr] at hcl
      obtain ⟨⟨xt, xs, xf, xb, xc, xd⟩, xa, xac, xfa, xfc⟩ := x
      simp only at x0 x1 x2 x3 x4 x5 hcl hlen hmem
      have hxc : (psCs (⟨xt, xs, xf, xb, xc, xd⟩, xa, xac, xfa, xfc) : List Value) = [.int .i64 xt, .slice xa n xac, .slice xfa m xfc, .int .i64 xb, .int .i64 xc, .int .i64 xd] := by rw [← hlen.1, ← hlen.2]
      have HX := Lib.hid hx
      have HMEM := Lib.hid hmem
      have HXC := Lib.hid hxc
      have HBW := Lib.hid hbw
      have HRR := Lib.hid hr
      have HCL := Lib.hid hcl
      have i1 : (i : Int) < (ll : Int) := by omega
      have i0 : (0 : Int) ≤ (i : Int) := by omega
      have HLT := Lib.hid hlt
      have hS : ∀ wy : World, Below wq.heap.size wq wy → Below wq.heap.size wq wy ∧ wy.cell? ⟨w.heap.size, 0, none⟩ = some (.int .i64 pt) ∧ wy.cell? ⟨w.heap.size, 1, none⟩ = some (.slice sa n sc) ∧ wy.cell? ⟨w.heap.size, 2, none⟩ = some (.slice fa m fc) ∧ wy.cell? ⟨w.heap.size, 3, none⟩ = some (.int .i64 pb) ∧ wy.cell? ⟨w.heap.size, 4, none⟩ = some (.int .i64 pc) ∧ wy.cell? ⟨w.heap.size, 5, none⟩ = some (.int .i64 pd)
          ∧ wy.cell? ⟨b, off + i * 6, none⟩ = some (.int .i64 xt) ∧ wy.cell? ⟨b, off + i * 6 + 1, none⟩ = some (.slice xa n xac) ∧ wy.cell? ⟨b, off + i * 6 + 2, none⟩ = some (.slice xfa m xfc) ∧ wy.cell? ⟨b, off + i * 6 + 3, none⟩ = some (.int .i64 xb) ∧ wy.cell? ⟨b, off + i * 6 + 4, none⟩ = some (.int .i64 xc) ∧ wy.cell? ⟨b, off + i * 6 + 5, none⟩ = some (.int .i64 xd) := fun wy hy =>
        ⟨hy, cell_later hy g0, cell_later hy g1, cell_later hy g2, cell_later hy g3, cell_later hy g4, cell_later hy g5, cell_later hy x0, cell_later hy x1, cell_later hy x2, cell_later hy x3, cell_later hy x4, cell_later hy x5⟩
      clear hno2 hx hmem hlen hxc hbw hr hcl hLq hrng g0 g1 g2 g3 g4 g5 x0 x1 x2 x3 x4 x5 hlt
      go_upto_region 4 with fail
      refine wp_flow_s [] [] (by kernel_rfl) (by kernel_rfl) (by kernel_rfl) ?_
      repeat (first | ((with_reducible refine Flow.pure hS StayG.nil (v := ?_) ?_ ?_ ?_ ?_); rotate_left 1; (focus kernel_rfl); (focus (intro _; rfl)); (focus (intro β wx hSw; (try dsimp only at hSw); go_simp; (try with_reducible rfl); done)); (try simp only [Act.put, List.setIfInBounds_toArray, List.set_cons_zero, List.set_cons_succ, Nat.reduceAdd])) | ((with_reducible refine Flow.skip StayG.nil ?_ ?_ ?_); (focus kernel_rfl); (focus (intro _; rfl)); (try simp only [Act.put, List.setIfInBounds_toArray, List.set_cons_zero, List.set_cons_succ, Nat.reduceAdd])) | ((with_reducible refine Flow.call hS StayG.nil (v := ?_) ?_ ?_ ?_ ?_); rotate_left 1; (focus kernel_rfl); (focus (intro _; rfl)); (focus (intro β L wx hI hat hSw K' hK; (try dsimp only at hSw); go_simp; go_at_call 23; refine Calls.mono (HCL.out _ (HBW.out.trans (hSw.1.mono HBW.out.size))) ?_; rintro e w' ⟨rfl, hb'⟩; exact hK.out _ hb')); (try simp only [Act.put, List.setIfInBounds_toArray, List.set_cons_zero, List.set_cons_succ, Nat.reduceAdd])))
      ((with_reducible refine Flow.stop ?_); dsimp only; intro β w4 hI4)
      have HB4 := Lib.hid (HBR.out.trans (hI4.below.mono HBR.out.size))
      obtain ⟨_, _, _, _, _, _, _, x0, x1, x2, x3, x4, x5⟩ := hS w4 hI4.below
      by_cases hr0 : r = 0
      · subst hr0
        have HZ := Lib.hid (HIN.out.2.2 _ HMEM.out (cmpP_zero (HRR.out.symm)))
        obtain ⟨r0, g0⟩ := (HR.out.later HB4.out) 0 _ rfl
        obtain ⟨r1, g1⟩ := (HR.out.later HB4.out) 1 _ rfl
        obtain ⟨r2, g2⟩ := (HR.out.later HB4.out) 2 _ rfl
        obtain ⟨r3, g3⟩ := (HR.out.later HB4.out) 3 _ rfl
        obtain ⟨r4, g4⟩ := (HR.out.later HB4.out) 4 _ rfl
        obtain ⟨r5, g5⟩ := (HR.out.later HB4.out) 5 _ rfl
        have HR4 := Lib.hid (HR.out.later HB4.out)
        clear hS hI4
        go_wp2_with fail
        obtain ⟨w6, hw6⟩ : ∃ w6, w6 = w4.setCells (w.heap.size + 1) 0 [.int .i64 xt, .slice xa n xac, .slice xfa m xfc, .int .i64 xb, .int .i64 xc, .int .i64 xd] := ⟨_, rfl⟩
        have hb6 : Below w.heap.size w w6 := by rw [hw6]; exact below_setCells _ _ _ _ (HB1.out.trans (HB4.out.mono HB1.out.size)) (by omega)
        have hr6 : BoxAt w6 (w.heap.size + 1) [.int .i64 xt, .slice xa n xac, .slice xfa m xfc, .int .i64 xb, .int .i64 xc, .int .i64 xd] := by
          rw [hw6]
          exact HR4.out.stored rfl
        simp only [World.setCells, Nat.zero_add, Nat.reduceAdd] at hw6
        rw [← hw6]
        have q0 := (hr6 0 _ rfl).1
        have q1 := (hr6 1 _ rfl).1
        have q2 := (hr6 2 _ rfl).1
        have q3 := (hr6 3 _ rfl).1
        have q4 := (hr6 4 _ rfl).1
        have q5 := (hr6 5 _ rfl).1
        refine bodyPost_ret (v := .tuple #[.agg #[.int .i64 xt, .slice xa n xac, .slice xfa m xfc, .int .i64 xb, .int .i64 xc, .int .i64 xd], .bool true]) (by simp [results, go_sem, q0, q1, q2, q3, q4, q5]) rfl ?_
        exact retB (by rw [← HZ.out, HXC.out]) hb6
      · have hr1 : (r == 0) = false := by simpa using hr0
        have HNX := Lib.hid (show ∀ j (h : j < l.length), j < i + 1 → ¬ cmpP l[j].1 ⟨pt, ps, pf, pb, pc, pd⟩ = 0 from fun j h hj => by
          by_cases hji : j < i
          · exact HNO.out j h hji
          · obtain rfl : j = i := by omega
            intro e
            rw [← HX.out] at e
            exact hr0 (HRR.out.trans e))
        clear hS hI4 x0 x1 x2 x3 x4 x5
        go_wp2_with fail
        go_roundg (ll - i)
        case measure => have := HLT.out; omega
        case rel => exact ⟨i + 1, HLT.out, by have := HLT.out; omega, by go_num, HB4.out, HNX.out⟩
    · exfalso
      obtain ⟨hx, he, _⟩ := HIN.out
      obtain ⟨j, hj, rfl⟩ := List.mem_iff_getElem.1 hx
      exact HNO.out j hj (by have := HLL.out; omega) (cmpP_of he)
end
section
open Go.RowKit Go.Maps Go.Shelf

structure FolR (g : Gm) (D R : List St) : Prop where
  nd : R.Nodup
  sub : ∀ y ∈ D, y ∈ R
  new : ∀ y ∈ R, y ∈ D ∨ (Dom g y ∧ y.turn < g.deps.length ∧ (y.turn + 1 < g.deps.length → ∀ x ∈ madeL (afterS y (BG g y).1), x ∈ R))
theorem fol_props {g : Gm} : ∀ (k : Nat) (s : St) (D : List St), Dom g s → s.turn + k = g.deps.length → D.Nodup → FolR g D (followL g k s D) ∧ (0 < k → ∀ x ∈ madeL s, x ∈ followL g k s D)
  | 0, s, D, _, _, hn => ⟨⟨hn, fun _ h => h, fun _ h => .inl h⟩, fun h => absurd h (by omega)⟩
  | k + 1, s, D, hs, hk, hn => by
    rw [followL_succ]
    have key : ∀ (l : List St) (D : List St), (∀ x ∈ l, x ∈ madeL s) → D.Nodup → FolR g D (l.foldl (folStep g k) D) ∧ ∀ x ∈ l, x ∈ l.foldl (folStep g k) D := by
      intro l
      induction l with
      | nil => intro D _ hn; exact ⟨⟨hn, fun _ h => h, fun _ h => .inl h⟩, fun _ h => (by cases h)⟩
      | cons x l ih =>
        intro D hl hn
        rw [List.foldl_cons]
        have hx := hl x (by simp)
        have hdx := hs.made hx
        have htx := made_turn hx
        have st : FolR g D (folStep g k D x) ∧ x ∈ folStep g k D x := by
          unfold folStep
          split
          · rename_i h
            exact ⟨⟨hn, fun _ h => h, fun _ h => .inl h⟩, h⟩
          · rename_i h
            have hn2 : (D ++ [x]).Nodup := by
              rw [List.nodup_append]
              exact ⟨hn, by simp, fun y hy z hz => by rw [List.mem_singleton.1 hz]; exact fun e => h (e ▸ hy)⟩
            obtain ⟨⟨a, b, c⟩, d⟩ := fol_props k (afterS x (BG g x).1) (D ++ [x]) (hdx.next (by omega)) (by show x.turn + 1 + k = _; omega) hn2
            refine ⟨⟨a, fun y hy => b y (by simp [hy]), fun y hy => ?_⟩, b x (by simp)⟩
            rcases c y hy with h1 | h1
            · rcases List.mem_append.1 h1 with h2 | h2
              · exact .inl h2
              · have e := List.mem_singleton.1 h2
                subst e
                exact .inr ⟨hdx, by omega, fun ht => d (by omega)⟩
            · exact .inr h1
        obtain ⟨s1, s2⟩ := st
        obtain ⟨t1, t2⟩ := ih (folStep g k D x) (fun y hy => hl y (by simp [hy])) s1.nd
        refine ⟨⟨t1.nd, fun y hy => t1.sub y (s1.sub y hy), fun y hy => ?_⟩, fun y hy => ?_⟩
        · rcases t1.new y hy with h1 | h1
          · rcases s1.new y h1 with h2 | ⟨h2, h3, h4⟩
            · exact .inl h2
            · exact .inr ⟨h2, h3, fun ht z hz => t1.sub z (h4 ht z hz)⟩
          · exact .inr h1
        · rcases List.mem_cons.1 hy with rfl | hy
          · exact t1.sub _ s2
          · exact t2 y hy
    have := key (madeL s) D (fun _ h => h) hn
    exact ⟨this.1, fun _ => this.2⟩
theorem bvF_val {g : Gm} {w : St → Int} {x : St} (hd : ∀ v ∈ dg g x.turn.toNat, 0 ≤ v) : (bvF g w x).2 = (if (bvF g w x).1 < 0 then 1 else 0) + w (afterS x (bvF g w x).1) := by
  have key : ∀ (l : List Int) (o : Int × Int), (∀ v ∈ l, 0 ≤ v) → o.2 = (if o.1 < 0 then 1 else 0) + w (afterS x o.1) → (l.foldl (considerF w x) o).2 = (if (l.foldl (considerF w x) o).1 < 0 then 1 else 0) + w (afterS x (l.foldl (considerF w x) o).1) := by
    intro l
    induction l with
    | nil => intro o _ h; exact h
    | cons v l ih =>
      intro o hl h
      have hv := hl v (by simp)
      refine ih _ (fun y hy => hl y (by simp [hy])) ?_
      unfold considerF
      split
      · split
        · show w (afterS x v) = (if v < 0 then 1 else 0) + w (afterS x v)
          rw [if_neg (by omega)]
          omega
        · exact h
      · exact h
  unfold bvF
  exact key _ _ hd rfl
def boundB (g : Gm) (x : St) : Int := (BG g x).2
/-- what the plan's rows hold -/
structure PlanR (g : Gm) (l : List PA) : Prop where
  strict : (l.map (·.1)).Pairwise (fun x y => cmpP x y < 0)
  pos : ∀ q ∈ l, q.1 = posS g q.1.st
  dom : ∀ q ∈ l, Dom g q.1.st ∧ q.1.turn < g.deps.length
  next : ∀ q ∈ l, q.1.turn + 1 < g.deps.length → ∀ y ∈ madeL (afterS q.1.st q.1.choice), ∃ r ∈ l, r.1.st = y
  first : 0 < g.deps.length → ∀ y ∈ madeL (beginS g), ∃ r ∈ l, r.1.st = y
theorem PlanOf.rows {g : Gm} (hv : VG g) {l : List PA} (h : PlanOf g (l.map (·.1))) : PlanR g l := by
  obtain ⟨⟨nd, _, new⟩, fst⟩ := fol_props (g := g) g.deps.length (beginS g) [] (Dom.begin hv) (by show (0 : Int) + _ = _; omega) List.nodup_nil
  have hmem : ∀ q ∈ l, ∃ x ∈ followL g g.deps.length (beginS g) [], q.1 = posS g x := fun q hq => by
    have h1 := h.p.mem_iff.1 (List.mem_map.2 ⟨q, hq, rfl⟩)
    obtain ⟨x, hx, e⟩ := List.mem_map.1 h1
    exact ⟨x, hx, e.symm⟩
  have hback : ∀ x ∈ followL g g.deps.length (beginS g) [], ∃ r ∈ l, r.1.st = x := fun x hx => by
    have h1 := h.p.mem_iff.2 (List.mem_map.2 ⟨x, hx, rfl⟩)
    obtain ⟨r, hr, e⟩ := List.mem_map.1 h1
    exact ⟨r, hr, by have e' : r.1 = posS g x := e; rw [e', posS_st]⟩
  have hst : ((l.map (·.1)).map Pos.st).Nodup := by
    have h1 := h.p.map Pos.st
    rw [List.map_map, List.map_map] at h1
    have e : (followL g g.deps.length (beginS g) []).map (Pos.st ∘ posS g) = followL g g.deps.length (beginS g) [] := by
      rw [show (Pos.st ∘ posS g) = id from rfl, List.map_id]
    rw [e] at h1
    rw [List.map_map]
    exact h1.nodup_iff.2 nd
  refine ⟨strict_of h.s hst, fun q hq => ?_, fun q hq => ?_, fun q hq ht y hy => ?_, fun h0 y hy => hback y (fst h0 y hy)⟩
  · obtain ⟨x, hx, e⟩ := hmem q hq
    rw [e, posS_st]
  · obtain ⟨x, hx, e⟩ := hmem q hq
    rcases new x hx with h1 | ⟨h1, h2, _⟩
    · cases h1
    · rw [e, posS_st]
      exact ⟨h1, h2⟩
  · obtain ⟨x, hx, e⟩ := hmem q hq
    rcases new x hx with h1 | ⟨h1, h2, h3⟩
    · cases h1
    · rw [e, posS_st] at hy
      rw [e] at ht
      exact hback y (h3 ht y hy)
theorem PlanR.nodup {g : Gm} {l : List PA} (h : PlanR g l) : (l.map fun x : PA => x.1.st).Nodup := by
  have h1 : (l.map (·.1)).Pairwise (fun x y => x.st ≠ y.st) := h.strict.imp fun {x y} hxy e => by rw [cmpP_of e] at hxy; omega
  have h2 := List.pairwise_map.1 h1
  exact List.pairwise_map.2 h2
theorem PlanR.bound {g : Gm} (hv : VG g) {l : List PA} (h : PlanR g l) {q : PA} (hq : q ∈ l) : q.1.bound = (if q.1.choice < 0 then 1 else 0) + (if q.1.turn + 1 < g.deps.length then maxL ((madeL (afterS q.1.st q.1.choice)).map (boundB g)) else 0) := by
  have e := h.pos q hq
  obtain ⟨hd, ht⟩ := h.dom q hq
  have h0 := hd.t0
  have e1 : q.1.bound = (BG g q.1.st).2 := by rw [e]; rfl
  have e2 : q.1.choice = (BG g q.1.st).1 := by rw [e]; rfl
  have e3 : q.1.st.turn = q.1.turn := rfl
  rw [e1, e2]
  have hb := bvF_val (g := g) (w := WG g) (x := q.1.st) fun v hv' => (okDep_domG (hv.2.2.2.2.2 q.1.st.turn.toNat (by omega)) hv').1
  rw [show (BG g q.1.st).2 = (bvF g (WG g) q.1.st).2 from rfl, hb]
  congr 1
  by_cases hn : q.1.turn + 1 < g.deps.length
  · rw [if_pos hn]
    exact WG_on (by show 0 ≤ q.1.st.turn + 1; omega) (by show q.1.st.turn + 1 < _; omega)
  · rw [if_neg hn]
    exact WG_end (by show _ ≤ q.1.st.turn + 1; omega)
theorem boundB_in {g : Gm} (hv : VG g) (x : St) : 0 ≤ boundB g x ∧ boundB g x ≤ 13 := by
  have := bvF_in (g := g) (w := WG g) (x := x) (b := 12) (WG_in hv)
  exact ⟨this.1, by have h := this.2; show (BG g x).2 ≤ 13; exact h⟩
theorem PlanR.can {g : Gm} {l : List PA} (h : PlanR g l) {q : PA} (hq : q ∈ l) : can g q.1.st q.1.choice := by
  have e := h.pos q hq
  have e2 : q.1.choice = (BG g q.1.st).1 := by rw [e]; rfl
  rw [e2]
  exact BG_can g q.1.st
end
section
open Go.RowKit

/-- what the planner may choose -/
def chP (x : St) (v : Int) : Bool := !bg x.failed v.toNat && decide (0 < ig x.starts v.toNat)
def chL (g : Gm) (x : St) : List Int := (dg g x.turn.toNat).filter (chP x) ++ [-1]
def RetCh (L : List Int) (w : World) (e : Ending) (w' : World) : Prop := ∃ a c, e = .returned (.slice a L.length c) ∧ EI.At w' a L ∧ Below w.heap.size w w'
set_option maxRecDepth 100000 in
set_option maxHeartbeats 4000000 in
theorem choices_any (g : Gm) (sa da : Option Addr) (sc dc : Nat) (p : Pos) (psa pfa : Option Addr) (psc pfc : Nat) (w : World) (hG : GmAt w g sa da) (hv : VG g) (hP : PsAt w p psa pfa) (hd : Dom g p.st) (ht : p.turn < g.deps.length) :
    Calls Try.prog 60 #[gmV g sa sc da dc, psV p psa psc pfa pfc] w (RetCh (chL g p.st) w) := by
  have hls : p.starts.length = g.starts.length := hd.ls
  have hlf : p.failed.length = g.starts.length := hd.lf
  have ht0 : 0 ≤ p.turn := hd.t0
  obtain ⟨n, hn⟩ : ∃ n, n = g.starts.length := ⟨_, rfl⟩
  obtain ⟨nd, hnd⟩ : ∃ n, n = g.deps.length := ⟨_, rfl⟩
  obtain ⟨bu, hbu⟩ : ∃ n, n = g.budget := ⟨_, rfl⟩
  obtain ⟨tn, htn⟩ : ∃ t : Nat, p.turn = t := ⟨p.turn.toNat, by omega⟩
  obtain ⟨pb, hpb⟩ : ∃ n, n = p.budget := ⟨_, rfl⟩
  obtain ⟨pc, hpc⟩ : ∃ n, n = p.choice := ⟨_, rfl⟩
  obtain ⟨pd, hpd⟩ : ∃ n, n = p.bound := ⟨_, rfl⟩
  rw [← hn] at hls hlf
  have hn6 : n ≤ 6 := by rw [hn]; exact hv.1
  have hnd12 : nd ≤ 12 := by rw [hnd]; exact hv.2.1
  have htnd : tn < nd := by omega
  obtain ⟨db, doff, ra, rc, rfl, hrow, hri⟩ := hG.d tn (by omega)
  obtain ⟨d, hdd⟩ : ∃ d, d = g.deps.getD tn [] := ⟨_, rfl⟩
  rw [← hdd] at hrow hri
  have hok : okDep n d := by rw [hdd, hn]; exact hv.2.2.2.2.2 tn (by omega)
  have hm0 : d.length ≤ 1000 := by
    have := (VG.few hv).r tn (by omega)
    rw [hdd]
    exact this
  obtain ⟨m, hm⟩ : ∃ m, m = d.length := ⟨_, rfl⟩
  rw [← hm] at hrow hm0
  have hch : chL g p.st = d.filter (chP p.st) ++ [-1] := by
    unfold chL
    rw [show p.st.turn.toNat = tn by show p.turn.toNat = tn; omega, hdd]
    rfl
  have HG := Lib.hid hG
  have HP := Lib.hid hP
  have HOK := Lib.hid hok
  have HM := Lib.hid hm
  have HLS := Lib.hid (And.intro hls hlf)
  have HROW := Lib.hid hrow
  have HRI := Lib.hid hri
  have HCH := Lib.hid hch
  unfold psV gmV
  rw [← hn, ← hnd, ← hbu, hls, hlf, ← hpb, ← hpc, ← hpd, htn]
  have t1 : (tn : Int) < (nd : Int) := by omega
  have t0 : (0 : Int) ≤ (tn : Int) := by omega
  clear hG hv hP hd ht hls hlf ht0 hn hnd hbu htn hpb hpc hpd hdd hrow hri hok hm hch
  go_enter Try.func60, Try.ntmps60
  go_upto_region 1 with fail
  refine wp_named ?_
  intro w1 hw1
  obtain ⟨hb1, hs1, ⟨hg, _⟩, hp, _⟩ := alloc2t w [.slice sa n sc, .slice (some ⟨db, doff, none⟩) nd dc, .int .i64 bu] [.int .i64 tn, .slice psa n psc, .slice pfa n pfc, .int .i64 pb, .int .i64 pc, .int .i64 pd] _ _ w1 hw1
  have HB1 := Lib.hid hb1
  have c1 := (hg 1 _ rfl).1
  have p0 := (hp 0 _ rfl).1
  have HPX := Lib.hid hp
  have kr := cell_later hb1 HROW.out
  clear hw1 hb1 hs1 hg hp
  go_upto_region 3 with fail
  clear c1 p0 kr
  go_wp2_with fail
  go_loopg [5, 7] (m + 1) (fun gk v5 v7 wr => ∃ (k : Nat) (a : Option Addr) (c : Nat), k ≤ m ∧ gk + k = m + 1 ∧ v7 = .int .i64 k ∧ v5 = .slice a ((d.take k).filter (chP p.st)).length c ∧ EI.Own wr w1.heap.size (.slice a ((d.take k).filter (chP p.st)).length c) ((d.take k).filter (chP p.st)) ∧ Below w1.heap.size w1 wr)
  case atStart => exact ⟨0, none, 0, by omega, by omega, rfl, rfl, El.Own.nil _ _ _, Below.refl _ _⟩
  case round =>
    obtain ⟨k, a, c, hk, hgk, rfl, rfl, hown, hbr⟩ := hrel
    obtain ⟨wq, hwq⟩ : ∃ wq, wq = wr := ⟨_, rfl⟩
    subst hwq
    obtain ⟨ll, hll⟩ : ∃ ll, ll = ((d.take k).filter (chP p.st)).length := ⟨_, rfl⟩
    have hllk : ll ≤ 1000 := by
      rw [hll]
      refine Nat.le_trans (List.length_filter_le _ _) ?_
      rw [List.length_take, ← HM.out]
      omega
    rw [← hll] at hown ⊢
    have HOW := Lib.hid hown
    have HBR := Lib.hid hbr
    have HLL := Lib.hid hll
    have p1 := cell_later hbr (HPX.out 1 _ rfl).1
    have p2 := cell_later hbr (HPX.out 2 _ rfl).1
    have hbw := HB1.out.trans (hbr.mono HB1.out.size)
    have HBW := Lib.hid hbw
    by_cases hlt : k < m
    · obtain ⟨eb, eo, rfl, fp⟩ := HRI.out.fam (by have := HM.out; omega)
      have kq := cell_later hbw (fp k (by have := HM.out; omega))
      obtain ⟨v, hv⟩ : ∃ v, v = ig d k := ⟨_, rfl⟩
      rw [← hv] at kq
      have hvr : 0 ≤ v ∧ v < n := by rw [hv]; exact okDep_domG HOK.out (ig_mem (by have := HM.out; omega))
      obtain ⟨vn, rfl⟩ : ∃ vn : Nat, v = vn := ⟨v.toNat, by omega⟩
      have hvn : vn < n := by omega
      obtain ⟨sb, so, rfl, fs⟩ := HP.out.s.fam (show 0 < p.starts.length by have := HLS.out.1; omega)
      obtain ⟨fb, fo, rfl, ff⟩ := HP.out.f.fam (show 0 < p.failed.length by have := HLS.out.2; omega)
      have ks := cell_later hbw (fs vn (show vn < p.starts.length by have := HLS.out.1; omega))
      have kf := cell_later hbw (ff vn (show vn < p.failed.length by have := HLS.out.2; omega))
      obtain ⟨C2, hC2⟩ : ∃ C, C = bg p.failed vn := ⟨_, rfl⟩
      obtain ⟨sv, hsv⟩ : ∃ s, s = ig p.starts vn := ⟨_, rfl⟩
      rw [← hsv] at ks
      rw [← hC2] at kf
      obtain ⟨C3, hC3⟩ : ∃ C, C = decide (0 < sv) := ⟨_, rfl⟩
      have hnx : (d.take (k + 1)).filter (chP p.st) = (d.take k).filter (chP p.st) ++ if (!C2 && C3) = true then [(vn : Int)] else [] := by
        have hkd : k < d.length := by have := HM.out; omega
        rw [take_snoc hkd, List.filter_append, ← ig_lt hkd, ← hv, hC2, hC3, hsv]
        congr 1
        unfold chP
        rw [List.filter_cons]
        rfl
      have HNX0 := Lib.hid hnx
      have f3 := hC3.symm
      have k1 : (k : Int) < (m : Int) := by omega
      have k0 : (0 : Int) ≤ (k : Int) := by omega
      have v1 : (vn : Int) < (n : Int) := by omega
      have v0 : (0 : Int) ≤ (vn : Int) := by omega
      have HLT := Lib.hid hlt
      have hS : ∀ wy : World, Below wq.heap.size wq wy → wy.cell? ⟨w.heap.size + 1, 1, none⟩ = some (.slice (some ⟨sb, so, none⟩) n psc) ∧ wy.cell? ⟨w.heap.size + 1, 2, none⟩ = some (.slice (some ⟨fb, fo, none⟩) n pfc) ∧ wy.cell? ⟨eb, eo + k, none⟩ = some (.int .i64 vn) ∧ wy.cell? ⟨sb, so + vn, none⟩ = some (.int .i64 sv) ∧ wy.cell? ⟨fb, fo + vn, none⟩ = some (.bool C2) := fun wy hy => ⟨cell_later hy p1, cell_later hy p2, cell_later hy kq, cell_later hy ks, cell_later hy kf⟩
      clear fp hv hvr fs ff hC2 hsv hC3 hnx hlt hvn hown hbr hll hbw
      have hcases : C2 = true ∨ (C2 = false ∧ C3 = false) ∨ (C2 = false ∧ C3 = true) := by cases C2 <;> cases C3 <;> simp
      rcases hcases with rfl | ⟨rfl, rfl⟩ | ⟨rfl, rfl⟩
      · skip
        have HNX := Lib.hid (show ((d.take k).filter (chP p.st)) = (d.take (k + 1)).filter (chP p.st) from by rw [HNX0.out]; simp)
        go_upto_region 6 with fail
        refine wp_flow_s [] [] (by kernel_rfl) (by kernel_rfl) (by kernel_rfl) ?_
        repeat (first | ((with_reducible refine Flow.pure hS StayG.nil (v := ?_) ?_ ?_ ?_ ?_); rotate_left 1; (focus kernel_rfl); (focus (intro _; rfl)); (focus (intro β wx hSw; (try dsimp only at hSw); go_simp; (try with_reducible rfl); done)); (try simp only [Act.put, List.setIfInBounds_toArray, List.set_cons_zero, List.set_cons_succ, Nat.reduceAdd])) | ((with_reducible refine Flow.skip StayG.nil ?_ ?_ ?_); (focus kernel_rfl); (focus (intro _; rfl)); (try simp only [Act.put, List.setIfInBounds_toArray, List.set_cons_zero, List.set_cons_succ, Nat.reduceAdd])))
        ((with_reducible refine Flow.stop ?_); dsimp only; intro β w4 hI4)
        have HB4 := Lib.hid (HBR.out.trans (hI4.below.mono HBR.out.size))
        have HO4 := Lib.hid (HOW.out.later hI4.below)
        clear hS hI4
        go_wp2_with fail
        go_roundg (m - k)
        case measure => have := HLT.out; omega
        case rel => exact ⟨k + 1, a, c, HLT.out, by have := HLT.out; omega, by go_num, by rw [← HNX.out, HLL.out], by rw [← HNX.out]; have h := HO4.out; rwa [HLL.out] at h, HB4.out⟩
      · skip
        have HNX := Lib.hid (show ((d.take k).filter (chP p.st)) = (d.take (k + 1)).filter (chP p.st) from by rw [HNX0.out]; simp)
        go_upto_region 6 with fail
        refine wp_flow_s [] [] (by kernel_rfl) (by kernel_rfl) (by kernel_rfl) ?_
        repeat (first | ((with_reducible refine Flow.pure hS StayG.nil (v := ?_) ?_ ?_ ?_ ?_); rotate_left 1; (focus kernel_rfl); (focus (intro _; rfl)); (focus (intro β wx hSw; (try dsimp only at hSw); go_simp; (try with_reducible rfl); done)); (try simp only [Act.put, List.setIfInBounds_toArray, List.set_cons_zero, List.set_cons_succ, Nat.reduceAdd])) | ((with_reducible refine Flow.skip StayG.nil ?_ ?_ ?_); (focus kernel_rfl); (focus (intro _; rfl)); (try simp only [Act.put, List.setIfInBounds_toArray, List.set_cons_zero, List.set_cons_succ, Nat.reduceAdd])))
        ((with_reducible refine Flow.stop ?_); dsimp only; intro β w4 hI4)
        have HB4 := Lib.hid (HBR.out.trans (hI4.below.mono HBR.out.size))
        have HO4 := Lib.hid (HOW.out.later hI4.below)
        clear hS hI4
        go_wp2_with fail
        go_roundg (m - k)
        case measure => have := HLT.out; omega
        case rel => exact ⟨k + 1, a, c, HLT.out, by have := HLT.out; omega, by go_num, by rw [← HNX.out, HLL.out], by rw [← HNX.out]; have h := HO4.out; rwa [HLL.out] at h, HB4.out⟩
      · have HNX := Lib.hid (show ((d.take k).filter (chP p.st)) ++ [(vn : Int)] = (d.take (k + 1)).filter (chP p.st) from by rw [HNX0.out]; simp)
        go_upto_region 6 with fail
        refine wp_flow_s [] [] (by kernel_rfl) (by kernel_rfl) (by kernel_rfl) ?_
        repeat (first | ((with_reducible refine Flow.pure hS StayG.nil (v := ?_) ?_ ?_ ?_ ?_); rotate_left 1; (focus kernel_rfl); (focus (intro _; rfl)); (focus (intro β wx hSw; (try dsimp only at hSw); go_simp; (try with_reducible rfl); done)); (try simp only [Act.put, List.setIfInBounds_toArray, List.set_cons_zero, List.set_cons_succ, Nat.reduceAdd])) | ((with_reducible refine Flow.skip StayG.nil ?_ ?_ ?_); (focus kernel_rfl); (focus (intro _; rfl)); (try simp only [Act.put, List.setIfInBounds_toArray, List.set_cons_zero, List.set_cons_succ, Nat.reduceAdd])))
        ((with_reducible refine Flow.stop ?_); dsimp only; intro β w4 hI4)
        have HB4 := Lib.hid (HBR.out.trans (hI4.below.mono HBR.out.size))
        have HO4 := Lib.hid (HOW.out.later hI4.below)
        obtain ⟨_, _, kq, _, _⟩ := hS w4 hI4.below
        clear hS hI4
        have hA : Below w4.heap.size w4 (w4.alloc (.cells #[.int .i64 (vn : Int)] 3)) := (Below.refl _ _).alloc (Nat.le_refl _) _
        have hEm : Below w1.heap.size w1 (w4.alloc (.cells #[.int .i64 (vn : Int)] 3)) := HB4.out.trans (hA.mono HB4.out.size)
        have hOW := HO4.out
        rw [HLL.out] at hOW
        obtain ⟨v', w5, hr, ho, hg, _⟩ := El.app (E := EI) _ w1.heap.size _ _ [(vn : Int)] (hOW.later hA) (some ⟨w4.heap.size, 0, none⟩) 1 (El.one_at (BoxAt.new w4 _ _)) (by rw [← HLL.out]; simp; omega) hEm.size 22
        rw [← HLL.out] at hr
        simp only [List.length_cons, List.length_nil, Nat.zero_add] at hr
        have hb5 : Below w1.heap.size w1 w5 := hEm.grown hg hEm.size (fun b hb => (hOW.lt b hb).1)
        rw [HNX.out] at ho
        obtain ⟨a5, c5, e5, _⟩ := ho.at
        obtain ⟨lk, hlk⟩ : ∃ lk, lk = ((d.take (k + 1)).filter (chP p.st)).length := ⟨_, rfl⟩
        rw [← hlk] at e5
        subst e5
        have HR := Lib.hid hr
        have HO5 := Lib.hid ho
        have HB5 := Lib.hid hb5
        have HLK := Lib.hid hlk
        clear hA hEm hOW hr ho hg hb5 hlk
        go_wp2_with (at_builtin; go_loud (refine wpList_app_eq rfl _ _ _ rfl _ _ rfl rfl HR.out ?_))
        go_roundg (m - k)
        case measure => have := HLT.out; omega
        case rel => exact ⟨k + 1, a5, c5, HLT.out, by have := HLT.out; omega, by go_num, by rw [HLK.out], by rw [← HLK.out]; exact HO5.out, HB5.out⟩
    · obtain rfl : m = k := by omega
      have hA : Below wq.heap.size wq (wq.alloc (.cells #[.int .i64 (-1)] 3)) := (Below.refl _ _).alloc (Nat.le_refl _) _
      have hEm : Below w1.heap.size w1 (wq.alloc (.cells #[.int .i64 (-1)] 3)) := HBR.out.trans (hA.mono HBR.out.size)
      have hOW := HOW.out
      rw [HLL.out] at hOW
      obtain ⟨v', w5, hr, ho, hg, _⟩ := El.app (E := EI) _ w1.heap.size _ _ [(-1 : Int)] (hOW.later hA) (some ⟨wq.heap.size, 0, none⟩) 1 (El.one_at (BoxAt.new wq _ _)) (by rw [← HLL.out]; simp; omega) hEm.size 22
      rw [← HLL.out] at hr
      simp only [List.length_cons, List.length_nil, Nat.zero_add] at hr
      have hb5 : Below w1.heap.size w1 w5 := hEm.grown hg hEm.size (fun b hb => (hOW.lt b hb).1)
      have hfull : (d.take m).filter (chP p.st) ++ [(-1 : Int)] = chL g p.st := by rw [HCH.out, HM.out, List.take_length]
      rw [hfull] at ho
      obtain ⟨a5, c5, e5, _, _, hat5, _⟩ := ho.at
      subst e5
      have HR := Lib.hid hr
      have HAT := Lib.hid hat5
      have HB5 := Lib.hid (HB1.out.trans (hb5.mono HB1.out.size))
      clear hA hEm hOW hr ho hg hb5 hat5 hown hbr hll hbw p1 p2 hlt hfull
      go_wp2_with (at_builtin; go_loud (refine wpList_app_eq rfl _ _ _ rfl _ _ rfl rfl HR.out ?_))
      go_ret
      exact ⟨a5, c5, rfl, HAT.out, HB5.out⟩
end
section
open Go.RowKit Go.Maps

/-! ### plain -/
def rbStep (w : St → Int) (x : St) (o : Int × Int) (v : Int) : Int × Int := if o.2 < 0 ∨ w (afterS x v) + (if v < 0 then 1 else 0) < o.2 then (v, w (afterS x v) + (if v < 0 then 1 else 0)) else o
theorem rb_eq {g : Gm} {w : St → Int} {x : St} (hd : ∀ v ∈ dg g x.turn.toNat, 0 ≤ v) (hw : ∀ s, 0 ≤ w s) : (chL g x).foldl (rbStep w x) (0, -1) = bvF g w x := by
  obtain ⟨A, hA⟩ : ∃ A, A = 1 + w (afterS x (-1)) := ⟨_, rfl⟩
  have hA1 : 1 ≤ A := by have := hw (afterS x (-1)); omega
  have key : ∀ (l : List Int) (o r : Int × Int), (∀ v ∈ l, 0 ≤ v) → ((r.2 < 0 ∧ o = (-1, A)) ∨ (0 ≤ r.1 ∧ 0 ≤ r.2 ∧ ((r.2 ≤ A ∧ o = r) ∨ (A < r.2 ∧ o = (-1, A))))) →
      ((((l.filter (chP x)).foldl (rbStep w x) r).2 < 0 ∧ l.foldl (considerF w x) o = (-1, A)) ∨ (0 ≤ ((l.filter (chP x)).foldl (rbStep w x) r).1 ∧ 0 ≤ ((l.filter (chP x)).foldl (rbStep w x) r).2 ∧ ((((l.filter (chP x)).foldl (rbStep w x) r).2 ≤ A ∧ l.foldl (considerF w x) o = (l.filter (chP x)).foldl (rbStep w x) r) ∨ (A < ((l.filter (chP x)).foldl (rbStep w x) r).2 ∧ l.foldl (considerF w x) o = (-1, A))))) := by
    intro l
    induction l with
    | nil => intro o r _ h; exact h
    | cons v l ih =>
      intro o r hl h
      have hv := hl v (by simp)
      rw [List.filter_cons, List.foldl_cons]
      have hc : chP x v = true ↔ (bg x.failed v.toNat = false ∧ 0 < ig x.starts v.toNat) := by unfold chP; simp
      by_cases hcv : chP x v = true
      · rw [if_pos hcv, List.foldl_cons]
        refine ih _ _ (fun y hy => hl y (by simp [hy])) ?_
        have hwv := hw (afterS x v)
        have e1 : rbStep w x r v = if r.2 < 0 ∨ w (afterS x v) < r.2 then (v, w (afterS x v)) else r := by
          unfold rbStep
          rw [if_neg (show ¬ v < 0 by omega), Int.add_zero]
        have e2 : considerF w x o v = if w (afterS x v) < o.2 ∨ w (afterS x v) = o.2 ∧ o.1 < 0 then (v, w (afterS x v)) else o := by
          unfold considerF
          rw [if_pos (hc.1 hcv)]
        rw [e1, e2]
        rcases h with ⟨h1, h2⟩ | ⟨h1, h2, ⟨h3, h4⟩ | ⟨h3, h4⟩⟩
        · rw [if_pos (.inl h1), h2]
          right
          refine ⟨hv, hwv, ?_⟩
          by_cases hle : w (afterS x v) ≤ A
          · left
            refine ⟨hle, ?_⟩
            rw [if_pos (by show w (afterS x v) < A ∨ w (afterS x v) = A ∧ (-1 : Int) < 0; omega)]
          · right
            refine ⟨by show A < w (afterS x v); omega, ?_⟩
            rw [if_neg (by show ¬ (w (afterS x v) < A ∨ w (afterS x v) = A ∧ (-1 : Int) < 0); omega)]
        · subst h4
          right
          by_cases hlt : w (afterS x v) < o.2
          · rw [if_pos (.inr hlt), if_pos (.inl hlt)]
            exact ⟨hv, hwv, .inl ⟨by show w (afterS x v) ≤ A; omega, rfl⟩⟩
          · rw [if_neg (by omega), if_neg (by omega)]
            exact ⟨h1, h2, .inl ⟨h3, rfl⟩⟩
        · subst h4
          right
          by_cases hlt : w (afterS x v) < r.2
          · rw [if_pos (.inr hlt)]
            refine ⟨hv, hwv, ?_⟩
            by_cases hle : w (afterS x v) ≤ A
            · left
              refine ⟨hle, ?_⟩
              rw [if_pos (by show w (afterS x v) < A ∨ w (afterS x v) = A ∧ (-1 : Int) < 0; omega)]
            · right
              refine ⟨by show A < w (afterS x v); omega, ?_⟩
              rw [if_neg (by show ¬ (w (afterS x v) < A ∨ w (afterS x v) = A ∧ (-1 : Int) < 0); omega)]
          · rw [if_neg (by omega)]
            refine ⟨h1, h2, .inr ⟨h3, ?_⟩⟩
            rw [if_neg (by show ¬ (w (afterS x v) < A ∨ w (afterS x v) = A ∧ (-1 : Int) < 0); omega)]
      · rw [if_neg hcv]
        have e2 : considerF w x o v = o := by
          unfold considerF
          rw [if_neg (fun e => hcv (hc.2 e))]
        rw [e2]
        exact ih _ _ (fun y hy => hl y (by simp [hy])) h
  unfold chL bvF
  rw [List.foldl_append, List.foldl_cons, List.foldl_nil, ← hA]
  have h := key (dg g x.turn.toNat) (-1, A) (0, -1) hd (.inl ⟨by decide, rfl⟩)
  obtain ⟨r, hr⟩ : ∃ r, r = (List.filter (chP x) (dg g x.turn.toNat)).foldl (rbStep w x) (0, -1) := ⟨_, rfl⟩
  rw [← hr] at h ⊢
  have e : rbStep w x r (-1) = if r.2 < 0 ∨ A < r.2 then (-1, A) else r := by
    unfold rbStep
    rw [if_pos (show (-1 : Int) < 0 by decide), hA, Int.add_comm]
  rw [e]
  rcases h with ⟨h1, h2⟩ | ⟨h1, h2, ⟨h3, h4⟩ | ⟨h3, h4⟩⟩
  · rw [if_pos (.inl h1), h2]
  · rw [if_neg (by omega), h4]
  · rw [if_pos (.inr h3), h4]
theorem mem_chL {g : Gm} {x : St} {v : Int} (h : v ∈ chL g x) : v = -1 ∨ v ∈ dg g x.turn.toNat ∧ bg x.failed v.toNat = false ∧ 0 < ig x.starts v.toNat := by
  unfold chL at h
  rcases List.mem_append.1 h with h | h
  · obtain ⟨h1, h2⟩ := List.mem_filter.1 h
    unfold chP at h2
    rw [Bool.and_eq_true] at h2
    exact .inr ⟨h1, by simpa using h2.1, of_decide_eq_true h2.2⟩
  · exact .inl (List.mem_singleton.1 h)
theorem chL_len {g : Gm} (hv : VG g) {x : St} (h0 : 0 ≤ x.turn) (ht : x.turn < g.deps.length) : (chL g x).length ≤ 1001 := by
  unfold chL
  rw [List.length_append, List.length_singleton]
  have h1 := List.length_filter_le (chP x) (dg g x.turn.toNat)
  have h2 := (VG.few hv).r x.turn.toNat (by omega)
  omega
/-! ### contracts -/
def RWorstC (g : Gm) (sa : Option Addr) (sc : Nat) (da : Option Addr) (dc k : Nat) : Prop := ∀ (p : Pos) (psa pfa : Option Addr) (psc pfc : Nat) (w : World), GmAt w g sa da → PsAt w p psa pfa → Dom g p.st → p.turn + k = g.deps.length →
  Calls Try.prog 29 #[gmV g sa sc da dc, psV p psa psc pfa pfc] w (RetB (.int .i64 (WG g p.st)) w)
def RBestC (g : Gm) (sa : Option Addr) (sc : Nat) (da : Option Addr) (dc k : Nat) : Prop := ∀ (p : Pos) (psa pfa : Option Addr) (psc pfc : Nat) (w : World), GmAt w g sa da → PsAt w p psa pfa → Dom g p.st → p.turn + (k + 1 : Nat) = g.deps.length →
  Calls Try.prog 51 #[gmV g sa sc da dc, psV p psa psc pfa pfc] w (RetB (.tuple #[.int .i64 (BG g p.st).1, .int .i64 (BG g p.st).2]) w)
set_option maxRecDepth 100000 in
set_option maxHeartbeats 4000000 in
theorem rworst_end (g : Gm) (sa da : Option Addr) (sc dc : Nat) : RWorstC g sa sc da dc 0 := by
  intro p psa pfa psc pfc w hG hP hD ht
  have e0 : WG g p.st = 0 := WG_end (by show _ ≤ p.turn; omega)
  rw [e0]
  obtain ⟨nd, hnd⟩ : ∃ n, n = g.deps.length := ⟨_, rfl⟩
  obtain ⟨tn, htn⟩ : ∃ t, t = p.turn := ⟨_, rfl⟩
  unfold gmV psV
  rw [← hnd, ← htn]
  rw [← hnd, ← htn] at ht
  have t1 : decide ((nd : Int) ≤ tn) = true := decide_eq_true (by omega)
  have t2 : (nd : Int) ≤ tn := by omega
  clear hG hP hD ht e0 hnd htn
  go_enter Try.func29, Try.ntmps29
  go_wp2_with fail
  go_ret
  exact retB rfl (by repeat (first | exact Below.refl _ _ | assumption | refine Below.drew ?_ | refine below_drewN ?_ _ | refine Below.alloc ?_ (by first | omega | (simp; done) | (simp; omega)) _ | refine Below.setCell ?_ (by first | omega | (simp; done) | (simp; omega)) _ | refine Below.trans ?_ (Below.mono (by assumption) (by first | omega | (simp; done) | (simp; omega)))))
set_option maxRecDepth 100000 in
set_option maxHeartbeats 4000000 in
theorem rbest_on (g : Gm) (sa da : Option Addr) (sc dc k : Nat) (hv : VG g) (hW : RWorstC g sa sc da dc k) : RBestC g sa sc da dc k := by
  intro p psa pfa psc pfc w hG hP hD ht
  have ht0 : 0 ≤ p.turn := hD.t0
  have hls : p.starts.length = g.starts.length := hD.ls
  have hlf : p.failed.length = g.starts.length := hD.lf
  have hdep : ∀ v ∈ dg g p.st.turn.toNat, 0 ≤ v ∧ v < g.starts.length := fun v hv' => okDep_domG (hv.2.2.2.2.2 p.st.turn.toNat (by show p.turn.toNat < _; omega)) hv'
  have hbg : BG g p.st = (chL g p.st).foldl (rbStep (WG g) p.st) (0, -1) := (rb_eq (fun v hv' => (hdep v hv').1) fun s => (WG_in hv s).1).symm
  have hcan : ∀ v ∈ chL g p.st, v = -1 ∨ ∃ k : Nat, v = k ∧ k < p.starts.length ∧ 0 < ig p.starts k ∧ ig p.starts k ≤ 1000 := fun v hv' => by
    rcases mem_chL hv' with h | ⟨h1, h2, h3⟩
    · exact .inl h
    · have h4 := hdep v h1
      have h5 := hD.st v.toNat (by show v.toNat < p.starts.length; omega)
      have h6 := hv.2.2.2.2.1 v.toNat (by omega)
      have h7 : ig p.starts v.toNat ≤ ig g.starts v.toNat := h5.2
      exact .inr ⟨v.toNat, by omega, by omega, h3, by omega⟩
  have hcl := chL_len hv (x := p.st) ht0 (by show p.turn < _; omega)
  have hCH := fun wy (hy : Below w.heap.size w wy) => choices_any g sa da sc dc p psa pfa psc pfc wy (hG.later hy) hv (hP.later hy) hD (by omega)
  have hNX := fun (v : Int) (hv' : v ∈ chL g p.st) wy (hy : Below w.heap.size w wy) => rnext_any p v psa pfa psc pfc wy (hP.later hy) (by have := hv.1; omega) (by have := hv.2.1; omega) ((hcan v hv').imp id fun ⟨k, h1, h2, h3, h4⟩ => ⟨k, h1, h2, by omega, h4⟩)
  have hWC := fun (v : Int) (hv' : v ∈ chL g p.st) wy sa' sc' (hy : Below w.heap.size w wy) (hp : PsAt wy (posN p v) sa' pfa) => hW (posN p v) sa' pfa sc' pfc wy (hG.later hy) hp (hD.after (by show p.turn < _; omega) ((hcan v hv').imp id fun ⟨k, h1, h2, h3, h4⟩ => by rw [h1]; exact h3)) (by show p.turn + 1 + k = _; omega)
  obtain ⟨L, hL⟩ : ∃ L, L = chL g p.st := ⟨_, rfl⟩
  obtain ⟨n, hn⟩ : ∃ n, n = g.starts.length := ⟨_, rfl⟩
  obtain ⟨nd, hnd⟩ : ∃ n, n = g.deps.length := ⟨_, rfl⟩
  obtain ⟨bu, hbu⟩ : ∃ n, n = g.budget := ⟨_, rfl⟩
  obtain ⟨tn, htn⟩ : ∃ n, n = p.turn := ⟨_, rfl⟩
  obtain ⟨pb, hpb⟩ : ∃ n, n = p.budget := ⟨_, rfl⟩
  obtain ⟨pc, hpc⟩ : ∃ n, n = p.choice := ⟨_, rfl⟩
  obtain ⟨pd, hpd⟩ : ∃ n, n = p.bound := ⟨_, rfl⟩
  obtain ⟨R, hR⟩ : ∃ R, R = BG g p.st := ⟨_, rfl⟩
  rw [← hL] at hbg hcl
  simp only [← hL] at hCH hNX hWC
  rw [← hn] at hls hlf
  rw [← hR] at hbg
  have hnl : ∀ v, (posN p v).starts.length = n := fun v => by rw [posN_len]; exact hls
  have hnf : ∀ v, (posN p v).failed.length = n := fun v => hlf
  simp only [psV, gmV, hnl, hnf, hls, hlf, ← hn, ← hnd, ← hbu, ← htn, ← hpb, ← hpc, ← hpd] at hCH hNX hWC ⊢
  rw [← hR]
  have hWR : ∀ s, 0 ≤ WG g s ∧ WG g s ≤ 12 := WG_in hv
  have HCH := Lib.hid hCH
  have HNX := Lib.hid hNX
  have HWC := Lib.hid hWC
  have HBG := Lib.hid hbg
  have HCL := Lib.hid hcl
  have HWR := Lib.hid hWR
  have HLN := Lib.hid (And.intro hnl hnf)
  clear hCH hNX hWC hbg hcl hWR hnl hnf hG hP hD ht ht0 hls hlf hdep hcan hL hn hnd hbu htn hpb hpc hpd hR hv hW
  go_enter Try.func51, Try.ntmps51
  go_upto_region 1 with fail
  refine wp_named ?_
  intro w1 hw1
  obtain ⟨hb1, hs1, ⟨hg, _⟩, hp, _⟩ := alloc2t w [.slice sa n sc, .slice da nd dc, .int .i64 bu] [.int .i64 tn, .slice psa n psc, .slice pfa n pfc, .int .i64 pb, .int .i64 pc, .int .i64 pd] _ _ w1 hw1
  have HB1 := Lib.hid hb1
  have hS1 : ∀ wy : World, Below w1.heap.size w1 wy → (wy.cell? ⟨w.heap.size, 0, none⟩ = some (.slice sa n sc) ∧ wy.cell? ⟨w.heap.size, 1, none⟩ = some (.slice da nd dc) ∧ wy.cell? ⟨w.heap.size, 2, none⟩ = some (.int .i64 bu)) ∧
      wy.cell? ⟨w.heap.size + 1, 0, none⟩ = some (.int .i64 tn) ∧ wy.cell? ⟨w.heap.size + 1, 1, none⟩ = some (.slice psa n psc) ∧ wy.cell? ⟨w.heap.size + 1, 2, none⟩ = some (.slice pfa n pfc) ∧ wy.cell? ⟨w.heap.size + 1, 3, none⟩ = some (.int .i64 pb) ∧ wy.cell? ⟨w.heap.size + 1, 4, none⟩ = some (.int .i64 pc) ∧ wy.cell? ⟨w.heap.size + 1, 5, none⟩ = some (.int .i64 pd) := fun wy hy => by
    have h1 := hg.later hy
    have h2 := hp.later hy
    exact ⟨⟨(h1 0 _ rfl).1, (h1 1 _ rfl).1, (h1 2 _ rfl).1⟩, (h2 0 _ rfl).1, (h2 1 _ rfl).1, (h2 2 _ rfl).1, (h2 3 _ rfl).1, (h2 4 _ rfl).1, (h2 5 _ rfl).1⟩
  have HS1 := Lib.hid hS1
  obtain ⟨⟨c0, c1, c2⟩, p0, p1, p2, p3, p4, p5⟩ := hS1 w1 (Below.refl _ _)
  clear hw1 hb1 hs1 hg hp hS1
  go_wp2_with fail
  refine Calls.mono (HCH.out w1 HB1.out) ?_
  rintro e w2 ⟨la, lc, rfl, hat, hb2⟩
  obtain ⟨m, hm⟩ : ∃ m, m = L.length := ⟨_, rfl⟩
  rw [← hm]
  have hm1 : m ≤ 1001 := by rw [hm]; exact HCL.out
  have HM := Lib.hid hm
  have HAT := Lib.hid hat
  have HB12 := Lib.hid hb2
  clear hm hat hb2 c0 c1 c2 p0 p1 p2 p3 p4 p5
  go_wp2_with fail
  go_loopg [7, 8, 9] (m + 1) (fun gk v7 v8 v9 wr => ∃ i : Nat, i ≤ m ∧ gk + i = m + 1 ∧ v9 = .int .i64 i ∧ v7 = .int .i64 ((L.take i).foldl (rbStep (WG g) p.st) (0, -1)).1 ∧ v8 = .int .i64 ((L.take i).foldl (rbStep (WG g) p.st) (0, -1)).2 ∧ Below w2.heap.size w2 wr)
  case atStart => exact ⟨0, by omega, by omega, rfl, rfl, rfl, Below.refl _ _⟩
  case round =>
    obtain ⟨i, hi, hgi, rfl, rfl, rfl, hbr⟩ := hrel
    obtain ⟨wq, hwq⟩ : ∃ wq, wq = wr := ⟨_, rfl⟩
    subst hwq
    obtain ⟨o, ho⟩ : ∃ o, o = (L.take i).foldl (rbStep (WG g) p.st) (0, -1) := ⟨_, rfl⟩
    rw [← ho]
    obtain ⟨o1, o2⟩ := o
    simp only
    have HO := Lib.hid ho
    have HBR := Lib.hid hbr
    have hb1q := HB12.out.trans (hbr.mono HB12.out.size)
    have HB1Q := Lib.hid hb1q
    have HBWQ := Lib.hid (HB1.out.trans (hb1q.mono HB1.out.size))
    clear ho
    by_cases hlt : i < m
    · have hiL : i < L.length := by have := HM.out; omega
      obtain ⟨eb, eo, rfl, fp⟩ := (HAT.out.ints).fam (by omega)
      have kq := cell_later hbr (fp i hiL)
      have hvm : ig L i ∈ L := ig_mem hiL
      have hnx : (L.take (i + 1)).foldl (rbStep (WG g) p.st) (0, -1) = rbStep (WG g) p.st (o1, o2) (ig L i) := by
        rw [take_snoc hiL, List.foldl_append, ← HO.out, ig_lt hiL]
        rfl
      obtain ⟨v, hv⟩ : ∃ v, v = ig L i := ⟨_, rfl⟩
      rw [← hv] at kq hvm hnx
      have hN1 := HNX.out v hvm
      have hW1 := HWC.out v hvm
      obtain ⟨N, hN⟩ : ∃ N, N = WG g (afterS p.st v) := ⟨_, rfl⟩
      have hN0 : 0 ≤ N ∧ N ≤ 12 := by rw [hN]; exact HWR.out _
      rw [posN_st, ← hN] at hW1
      have HNX1 := Lib.hid hN1
      have HW1 := Lib.hid hW1
      have HNXT := Lib.hid (show (L.take (i + 1)).foldl (rbStep (WG g) p.st) (0, -1) = if o2 < 0 ∨ N + (if v < 0 then 1 else 0) < o2 then (v, N + (if v < 0 then 1 else 0)) else (o1, o2) from by rw [hnx, hN]; rfl)
      have i1 : (i : Int) < (m : Int) := by omega
      have i0 : (0 : Int) ≤ (i : Int) := by omega
      have HLT := Lib.hid hlt
      clear fp hvm hnx hv hN1 hW1 hN hbr hb1q hlt
      go_upto_region 6 with fail
      refine wp_flow_j (fun β L' w' => Below wq.heap.size wq w' ∧ (L' 6 = true → ∃ sa' sc', β 6 = .agg #[.int .i64 (posN p v).turn, .slice sa' n sc', .slice pfa n pfc, .int .i64 (posN p v).budget, .int .i64 (posN p v).choice, .int .i64 (posN p v).bound] ∧ PsAt w' (posN p v) sa' pfa)) (by kernel_rfl) (by kernel_rfl) ?h0 ?_
      case h0 => exact ⟨(Below.refl _ _).drew, fun e => (by cases e)⟩
      iterate 6 (((with_reducible refine FlowJ.pure (v := ?_) ?_ ?_ ?_ ?_); rotate_left 1; (focus (intro _; rfl)); (focus (intro β L' w' hJ hat; (try dsimp only at hJ); (try dsimp only); simpa only [setL, Nat.reduceEqDiff, if_false] using hJ)); (focus (intro β L' w' hJ hat; (try dsimp only at hJ); (obtain ⟨⟨c0, c1, c2⟩, p0, p1, p2, p3, p4, p5⟩ := HS1.out _ (HB1Q.out.trans (hJ.1.mono HB1Q.out.size)); have y0 := cell_later hJ.1 kq); go_simp; (try with_reducible rfl); done)); (try simp only [Act.put, List.setIfInBounds_toArray, List.set_cons_zero, List.set_cons_succ, Nat.reduceAdd])))
      ((with_reducible refine FlowJ.ghost ?_ ?_ ?_); (focus (intro _; rfl)); (focus (intro β L' w' hJ hat K' hK; (try dsimp only at hJ); (have un := hat.un; go_simp; go_at_call 24; refine Calls.mono (HNX1.out w' (HBWQ.out.trans (hJ.1.mono HBWQ.out.size))) ?_; rintro e w'' ⟨sa', sc', rfl, hp, hb⟩; refine hK.out _ _ ?_; simp only [updG, setL, if_true]; exact ⟨hJ.1.trans (hb.mono hJ.1.size), fun _ => ⟨sa', sc', by simp only [psV, HLN.out.1, HLN.out.2], hp⟩⟩))); (try simp only [Act.put, List.setIfInBounds_toArray, List.set_cons_zero, List.set_cons_succ, Nat.reduceAdd]))
      ((with_reducible refine FlowJ.call (v := ?_) ?_ ?_ ?_); rotate_left 1; (focus (intro _; rfl)); (focus (intro β L' w' hJ hat K' hK; (try dsimp only at hJ); ((have p6 := hat.pre 6 (by kernel_rfl)); obtain ⟨sa', sc', e6, hp⟩ := hJ.2 p6; rw [e6]; go_simp; go_at_call 29; refine Calls.mono (HW1.out w' sa' sc' (HBWQ.out.trans (hJ.1.mono HBWQ.out.size)) hp) ?_; rintro e w'' ⟨rfl, hb⟩; rw [← e6]; refine hK.out _ ?_; simp only [setL, Nat.reduceEqDiff, if_false]; exact ⟨hJ.1.trans (hb.mono hJ.1.size), fun _ => ⟨sa', sc', e6, hp.later hb⟩⟩))); (try simp only [Act.put, List.setIfInBounds_toArray, List.set_cons_zero, List.set_cons_succ, Nat.reduceAdd]))
      ((with_reducible refine FlowJ.pure (v := ?_) ?_ ?_ ?_ ?_); rotate_left 1; (focus (intro _; rfl)); (focus (intro β L' w' hJ hat; (try dsimp only at hJ); (try dsimp only); simpa only [setL, Nat.reduceEqDiff, if_false] using hJ)); (focus (intro β L' w' hJ hat; (try dsimp only at hJ); skip; go_simp; (try with_reducible rfl); done)); (try simp only [Act.put, List.setIfInBounds_toArray, List.set_cons_zero, List.set_cons_succ, Nat.reduceAdd]))
      refine FlowJ.stop ?_
      dsimp only
      intro β w4 hJ
      have hb4 := hJ.1
      have HB4 := Lib.hid (HBR.out.trans (hb4.mono HBR.out.size))
      have y0 := cell_later hb4 kq
      clear hJ hb4 kq
      by_cases hv0 : v < 0
      · have g1 : decide (v < 0) = true := decide_eq_true hv0
        have g2 : IntKind.i64.wrap (N + 1) = N + 1 := IntWalk.i64_in _ (by omega)
        have HNX2 := Lib.hid (show (L.take (i + 1)).foldl (rbStep (WG g) p.st) (0, -1) = if o2 < 0 ∨ N + 1 < o2 then (v, N + 1) else (o1, o2) from by rw [HNXT.out, if_pos hv0])
        by_cases h1 : o2 < 0
        · have h1' : decide (o2 < 0) = true := decide_eq_true h1
          have HNX3 := Lib.hid (show (L.take (i + 1)).foldl (rbStep (WG g) p.st) (0, -1) = (v, N + 1) from by rw [HNX2.out, if_pos (.inl h1)])
          go_wp2_with fail
          go_roundg (m - i)
          case measure => have := HLT.out; omega
          case rel => exact ⟨i + 1, HLT.out, by have := HLT.out; omega, by go_num, by rw [HNX3.out], by rw [HNX3.out], HB4.out⟩
        · have h1' : decide (o2 < 0) = false := decide_eq_false h1
          by_cases h2 : N + 1 < o2
          · have h2' : decide (N + 1 < o2) = true := decide_eq_true h2
            have HNX3 := Lib.hid (show (L.take (i + 1)).foldl (rbStep (WG g) p.st) (0, -1) = (v, N + 1) from by rw [HNX2.out, if_pos (.inr h2)])
            go_wp2_with fail
            go_roundg (m - i)
            case measure => have := HLT.out; omega
            case rel => exact ⟨i + 1, HLT.out, by have := HLT.out; omega, by go_num, by rw [HNX3.out], by rw [HNX3.out], HB4.out⟩
          · have h2' : decide (N + 1 < o2) = false := decide_eq_false h2
            have HNX3 := Lib.hid (show (L.take (i + 1)).foldl (rbStep (WG g) p.st) (0, -1) = (o1, o2) from by rw [HNX2.out, if_neg (by omega)])
            go_wp2_with fail
            go_roundg (m - i)
            case measure => have := HLT.out; omega
            case rel => exact ⟨i + 1, HLT.out, by have := HLT.out; omega, by go_num, by rw [HNX3.out], by rw [HNX3.out], HB4.out⟩
      · have g1 : decide (v < 0) = false := decide_eq_false hv0
        have HNX2 := Lib.hid (show (L.take (i + 1)).foldl (rbStep (WG g) p.st) (0, -1) = if o2 < 0 ∨ N < o2 then (v, N) else (o1, o2) from by rw [HNXT.out, if_neg hv0, Int.add_zero])
        by_cases h1 : o2 < 0
        · have h1' : decide (o2 < 0) = true := decide_eq_true h1
          have HNX3 := Lib.hid (show (L.take (i + 1)).foldl (rbStep (WG g) p.st) (0, -1) = (v, N) from by rw [HNX2.out, if_pos (.inl h1)])
          go_wp2_with fail
          go_roundg (m - i)
          case measure => have := HLT.out; omega
          case rel => exact ⟨i + 1, HLT.out, by have := HLT.out; omega, by go_num, by rw [HNX3.out], by rw [HNX3.out], HB4.out⟩
        · have h1' : decide (o2 < 0) = false := decide_eq_false h1
          by_cases h2 : N < o2
          · have h2' : decide (N < o2) = true := decide_eq_true h2
            have HNX3 := Lib.hid (show (L.take (i + 1)).foldl (rbStep (WG g) p.st) (0, -1) = (v, N) from by rw [HNX2.out, if_pos (.inr h2)])
            go_wp2_with fail
            go_roundg (m - i)
            case measure => have := HLT.out; omega
            case rel => exact ⟨i + 1, HLT.out, by have := HLT.out; omega, by go_num, by rw [HNX3.out], by rw [HNX3.out], HB4.out⟩
          · have h2' : decide (N < o2) = false := decide_eq_false h2
            have HNX3 := Lib.hid (show (L.take (i + 1)).foldl (rbStep (WG g) p.st) (0, -1) = (o1, o2) from by rw [HNX2.out, if_neg (by omega)])
            go_wp2_with fail
            go_roundg (m - i)
            case measure => have := HLT.out; omega
            case rel => exact ⟨i + 1, HLT.out, by have := HLT.out; omega, by go_num, by rw [HNX3.out], by rw [HNX3.out], HB4.out⟩
    · obtain rfl : m = i := by omega
      have HE := Lib.hid (show R = (o1, o2) from by rw [HBG.out, HO.out, HM.out, List.take_length])
      clear hbr hb1q hlt
      go_wp2_with fail
      refine bodyPost_ret (v := .tuple #[.int .i64 o1, .int .i64 o2]) (by simp [results, Try.f51, go_sem]) rfl ?_
      exact retB (by rw [HE.out]) HBWQ.out
set_option maxRecDepth 100000 in
set_option maxHeartbeats 4000000 in
theorem rworst_on (g : Gm) (sa da : Option Addr) (sc dc k : Nat) (hv : VG g) (hB : RBestC g sa sc da dc k) : RWorstC g sa sc da dc (k + 1) := by
  intro p psa pfa psc pfc w hG hP hD ht
  have ht0 : 0 ≤ p.turn := hD.t0
  have hls : p.starts.length = g.starts.length := hD.ls
  have hlf : p.failed.length = g.starts.length := hD.lf
  have hwg : WG g p.st = maxL ((madeL p.st).map (boundB g)) := WG_on ht0 (by show p.turn < _; omega)
  have hMV := fun wy (hy : Below w.heap.size w wy) => rmoves_any p psa pfa psc pfc wy (hP.later hy) (by have := hv.1; omega) (by have h1 : p.budget ≤ g.budget := hD.b0; have := hv.2.2.2.1; omega)
  have hml := madeL_len hv hD
  have hBC := fun (y : PA) (hy' : y.1.st ∈ madeL p.st) wy (hy : Below w.heap.size w wy) (hp : PsAt wy y.1 y.2.1 y.2.2.2.1) => hB y.1 y.2.1 y.2.2.2.1 y.2.2.1 y.2.2.2.2 wy (hG.later hy) hp (hD.made hy') (by have h := made_turn hy'; have h1 : y.1.turn = p.turn := h; rw [h1]; exact ht)
  have hlen : ∀ y : PA, y.1.st ∈ madeL p.st → y.1.starts.length = g.starts.length ∧ y.1.failed.length = g.starts.length := fun y hy => ⟨(hD.made hy).ls, (hD.made hy).lf⟩
  obtain ⟨n, hn⟩ : ∃ n, n = g.starts.length := ⟨_, rfl⟩
  obtain ⟨nd, hnd⟩ : ∃ n, n = g.deps.length := ⟨_, rfl⟩
  obtain ⟨bu, hbu⟩ : ∃ n, n = g.budget := ⟨_, rfl⟩
  obtain ⟨tn, htn⟩ : ∃ n, n = p.turn := ⟨_, rfl⟩
  obtain ⟨pb, hpb⟩ : ∃ n, n = p.budget := ⟨_, rfl⟩
  obtain ⟨pc, hpc⟩ : ∃ n, n = p.choice := ⟨_, rfl⟩
  obtain ⟨pd, hpd⟩ : ∃ n, n = p.bound := ⟨_, rfl⟩
  rw [← hn] at hls hlf
  simp only [← hn] at hlen
  simp only [psV, gmV, hls, hlf, ← hn, ← hnd, ← hbu, ← htn, ← hpb, ← hpc, ← hpd] at hMV hBC ⊢
  rw [hwg]
  obtain ⟨Q, hQ⟩ : ∃ Q, Q = maxL ((madeL p.st).map (boundB g)) := ⟨_, rfl⟩
  rw [← hQ]
  have t1 : decide ((nd : Int) ≤ tn) = false := decide_eq_false (by omega)
  have t2 : ¬ (nd : Int) ≤ tn := by omega
  have hBR : ∀ x, 0 ≤ boundB g x ∧ boundB g x ≤ 13 := boundB_in hv
  have HMV := Lib.hid hMV
  have HBC := Lib.hid hBC
  have HLEN := Lib.hid hlen
  have HML := Lib.hid hml
  have HQ := Lib.hid hQ
  have HBB := Lib.hid hBR
  clear hMV hBC hlen hml hQ hBR hwg hG hP hD ht ht0 hls hlf hn hnd hbu htn hpb hpc hpd hv hB
  go_enter Try.func29, Try.ntmps29
  go_upto_region 1 with fail
  refine wp_named ?_
  intro w1 hw1
  obtain ⟨hb1, hs1, ⟨hg, _⟩, hp, _⟩ := alloc2t w [.slice sa n sc, .slice da nd dc, .int .i64 bu] [.int .i64 tn, .slice psa n psc, .slice pfa n pfc, .int .i64 pb, .int .i64 pc, .int .i64 pd] _ _ w1 hw1
  have HB1 := Lib.hid hb1
  have HGX := Lib.hid hg
  have c1 := (hg 1 _ rfl).1
  have p0 := (hp 0 _ rfl).1
  have p1 := (hp 1 _ rfl).1
  have p2 := (hp 2 _ rfl).1
  have p3 := (hp 3 _ rfl).1
  have p4 := (hp 4 _ rfl).1
  have p5 := (hp 5 _ rfl).1
  clear hw1 hb1 hs1 hg hp
  go_wp2_with fail
  refine Calls.mono (HMV.out w1 HB1.out) ?_
  rintro e w2 ⟨am, cm, ml, rfl, hmap, hat, hps, hb2⟩
  obtain ⟨mn, hmn⟩ : ∃ x, x = ml.length := ⟨_, rfl⟩
  have hmn2 : mn ≤ 7 := by
    have h := congrArg List.length hmap
    rw [List.length_map] at h
    have := HML.out
    omega
  rw [← hmn]
  have HMAP := Lib.hid hmap
  have HAT := Lib.hid hat
  have HPS := Lib.hid hps
  have HB12 := Lib.hid hb2
  have HMN := Lib.hid hmn
  clear hmap hat hps hmn hb2 c1 p0 p1 p2 p3 p4 p5
  go_wp2_with fail
  go_loopg [6, 7] (mn + 1) (fun gk v6 v7 wr => ∃ i : Nat, i ≤ mn ∧ gk + i = mn + 1 ∧ v7 = .int .i64 i ∧ v6 = .int .i64 (maxL ((ml.take i).map fun x : PA => boundB g x.1.st)) ∧ Below w2.heap.size w2 wr)
  case atStart => exact ⟨0, by omega, by omega, rfl, rfl, Below.refl _ _⟩
  case round =>
    obtain ⟨i, hi, hki, rfl, rfl, hbr⟩ := hrel
    obtain ⟨wq, hwq⟩ : ∃ wq, wq = wr := ⟨_, rfl⟩
    subst hwq
    have HBR := Lib.hid hbr
    obtain ⟨M, hM⟩ : ∃ x, x = maxL ((ml.take i).map fun x : PA => boundB g x.1.st) := ⟨_, rfl⟩
    rw [← hM]
    have HM := Lib.hid hM
    have hb1q := HB12.out.trans (hbr.mono HB12.out.size)
    have HB1Q := Lib.hid hb1q
    have HBWQ := Lib.hid (HB1.out.trans (hb1q.mono HB1.out.size))
    clear hbr hM hb1q
    by_cases hlt : i < mn
    · have hiL : i < ml.length := by have := HMN.out; omega
      have hatq := HAT.out.later HBR.out
      obtain ⟨b, off, rfl, _⟩ := hatq.head (by omega)
      have hrng := hatq.range hiL
      rw [show off + i * EQ.S = off + i * 6 from rfl] at hrng
      have hpy := (HPS.out.later HBR.out) ml[i] (List.getElem_mem hiL)
      have hyin : ml[i].1.st ∈ madeL p.st := by rw [← HMAP.out]; exact List.mem_map.2 ⟨_, List.getElem_mem hiL, rfl⟩
      have hnx : maxL ((ml.take (i + 1)).map fun x : PA => boundB g x.1.st) = max M (boundB g ml[i].1.st) := by
        rw [take_snoc hiL, List.map_append, List.map_singleton, maxL_snoc, HM.out]
      have hbc := fun wy (hy : Below wq.heap.size wq wy) => HBC.out ml[i] hyin wy (HBWQ.out.trans (hy.mono HBWQ.out.size)) (hpy.later hy)
      obtain ⟨hl1, hl2⟩ := HLEN.out _ hyin
      obtain ⟨y, hy⟩ : ∃ y, y = ml[i] := ⟨_, rfl⟩
      rw [← hy] at hrng hnx hl1 hl2
      simp only [← hy] at hbc
      simp only [hl1, hl2] at hbc
      obtain ⟨N, hN⟩ : ∃ N, N = boundB g y.1.st := ⟨_, rfl⟩
      have hN0 : 0 ≤ N ∧ N ≤ 13 := by rw [hN]; exact HBB.out _
      rw [show (BG g y.1.st).2 = boundB g y.1.st from rfl, ← hN] at hbc
      rw [← hN] at hnx
      obtain ⟨C, hC⟩ : ∃ C, C = (BG g y.1.st).1 := ⟨_, rfl⟩
      rw [← hC] at hbc
      have hM0 : 0 ≤ M ∧ M ≤ 13 := by
        rw [HM.out]
        refine maxL_in (fun y hy => ?_) (by omega)
        obtain ⟨x, _, rfl⟩ := List.mem_map.1 hy
        exact HBB.out _
      obtain ⟨⟨yt, ys, yf, yb, yc, yd⟩, ysa, ysc, yfa, yfc⟩ := y
      simp only at hbc
      replace hl1 : ys.length = n := hl1
      replace hl2 : yf.length = n := hl2
      have x0 : wq.cell? ⟨b, off + i * 6, none⟩ = some (.int .i64 yt) := by have := hrng 0 _ rfl; rwa [Nat.add_zero] at this
      have x1 : wq.cell? ⟨b, off + i * 6 + 1, none⟩ = some (.slice ysa n ysc) := by have := hrng 1 _ rfl; rw [← hl1]; exact this
      have x2 : wq.cell? ⟨b, off + i * 6 + 2, none⟩ = some (.slice yfa n yfc) := by have := hrng 2 _ rfl; rw [← hl2]; exact this
      have x3 : wq.cell? ⟨b, off + i * 6 + 3, none⟩ = some (.int .i64 yb) := hrng 3 _ rfl
      have x4 : wq.cell? ⟨b, off + i * 6 + 4, none⟩ = some (.int .i64 yc) := hrng 4 _ rfl
      have x5 : wq.cell? ⟨b, off + i * 6 + 5, none⟩ = some (.int .i64 yd) := hrng 5 _ rfl
      have g0 := ((HGX.out.later HB1Q.out) 0 _ rfl).1
      have g1 := ((HGX.out.later HB1Q.out) 1 _ rfl).1
      have g2 := ((HGX.out.later HB1Q.out) 2 _ rfl).1
      have HBC1 := Lib.hid hbc
      have HNX := Lib.hid hnx
      have i1 : (i : Int) < (mn : Int) := by omega
      have i0 : (0 : Int) ≤ (i : Int) := by omega
      have HLT := Lib.hid hlt
      have hS : ∀ wy : World, Below wq.heap.size wq wy → Below wq.heap.size wq wy ∧ wy.cell? ⟨w.heap.size, 0, none⟩ = some (.slice sa n sc) ∧ wy.cell? ⟨w.heap.size, 1, none⟩ = some (.slice da nd dc) ∧ wy.cell? ⟨w.heap.size, 2, none⟩ = some (.int .i64 bu)
          ∧ wy.cell? ⟨b, off + i * 6, none⟩ = some (.int .i64 yt) ∧ wy.cell? ⟨b, off + i * 6 + 1, none⟩ = some (.slice ysa n ysc) ∧ wy.cell? ⟨b, off + i * 6 + 2, none⟩ = some (.slice yfa n yfc) ∧ wy.cell? ⟨b, off + i * 6 + 3, none⟩ = some (.int .i64 yb) ∧ wy.cell? ⟨b, off + i * 6 + 4, none⟩ = some (.int .i64 yc) ∧ wy.cell? ⟨b, off + i * 6 + 5, none⟩ = some (.int .i64 yd) := fun wy hy =>
        ⟨hy, cell_later hy g0, cell_later hy g1, cell_later hy g2, cell_later hy x0, cell_later hy x1, cell_later hy x2, cell_later hy x3, cell_later hy x4, cell_later hy x5⟩
      clear hbc hnx hatq hrng hpy hyin hl1 hl2 hy hN hC x0 x1 x2 x3 x4 x5 g0 g1 g2 hlt hiL
      go_upto_region 8 with fail
      refine wp_flow_s [] [] (by kernel_rfl) (by kernel_rfl) (by kernel_rfl) ?_
      repeat (first | ((with_reducible refine Flow.pure hS StayG.nil (v := ?_) ?_ ?_ ?_ ?_); rotate_left 1; (focus kernel_rfl); (focus (intro _; rfl)); (focus (intro β wx hSw; (try dsimp only at hSw); go_simp; (try with_reducible rfl); done)); (try simp only [Act.put, List.setIfInBounds_toArray, List.set_cons_zero, List.set_cons_succ, Nat.reduceAdd])) | ((with_reducible refine Flow.skip StayG.nil ?_ ?_ ?_); (focus kernel_rfl); (focus (intro _; rfl)); (try simp only [Act.put, List.setIfInBounds_toArray, List.set_cons_zero, List.set_cons_succ, Nat.reduceAdd])) | ((with_reducible refine Flow.call hS StayG.nil (v := ?_) ?_ ?_ ?_ ?_); rotate_left 1; (focus kernel_rfl); (focus (intro _; rfl)); (focus (intro β L wx hI hat hSw K' hK; (try dsimp only at hSw); go_simp; go_at_call 51; refine Calls.mono (HBC1.out _ hSw.1) ?_; rintro e w' ⟨rfl, hb'⟩; exact hK.out _ hb')); (try simp only [Act.put, List.setIfInBounds_toArray, List.set_cons_zero, List.set_cons_succ, Nat.reduceAdd])))
      ((with_reducible refine Flow.stop ?_); dsimp only; intro β w4 hI4)
      have HB4 := Lib.hid (HBR.out.trans (hI4.below.mono HBR.out.size))
      clear hS hI4
      by_cases hMz : M ≤ N
      · have HNX2 := Lib.hid (show N = maxL ((ml.take (i + 1)).map fun x : PA => boundB g x.1.st) from by rw [HNX.out]; omega)
        have emx : max M N = N := by omega
        go_wp2_with fail
        go_roundg (mn - i)
        case measure => have := HLT.out; omega
        case rel => exact ⟨i + 1, HLT.out, by have := HLT.out; omega, by go_num, by rw [← HNX2.out], HB4.out⟩
      · have HNX2 := Lib.hid (show M = maxL ((ml.take (i + 1)).map fun x : PA => boundB g x.1.st) from by rw [HNX.out]; omega)
        have emx : max M N = M := by omega
        go_wp2_with fail
        go_roundg (mn - i)
        case measure => have := HLT.out; omega
        case rel => exact ⟨i + 1, HLT.out, by have := HLT.out; omega, by go_num, by rw [← HNX2.out], HB4.out⟩
    · obtain rfl : mn = i := by omega
      have HE := Lib.hid (show M = Q from by
        rw [HM.out, HQ.out, ← HMAP.out, List.map_map, List.take_of_length_le (by rw [← HMN.out]; exact Nat.le_refl _)]
        rfl)
      clear hlt hi hki
      go_wp2_with fail
      go_ret
      rw [HE.out]
      exact retB rfl HBWQ.out
theorem rwb_all (g : Gm) (sa da : Option Addr) (sc dc : Nat) (hv : VG g) : ∀ k, RWorstC g sa sc da dc k ∧ RBestC g sa sc da dc k
  | 0 => ⟨rworst_end g sa da sc dc, rbest_on g sa da sc dc 0 hv (rworst_end g sa da sc dc)⟩
  | k + 1 => by
    have h := rworst_on g sa da sc dc k hv (rwb_all g sa da sc dc hv k).2
    exact ⟨h, rbest_on g sa da sc dc (k + 1) hv h⟩
end
section
open Go.RowKit Go.Maps

theorem El.At.blk {α : Type} {E : El α} {w w' : World} {k : Nat} {l : List α} (h : E.At w (some ⟨k, 0, none⟩) l) (e : w'.heap[k]? = w.heap[k]?) : E.At w' (some ⟨k, 0, none⟩) l := fun j u hu => by
  obtain ⟨b, off, e2, hc⟩ := h j u hu
  cases e2
  exact ⟨k, 0, rfl, (World.cell?_of_block (w := w) (a := ⟨k, 0 + j, none⟩) e).trans hc⟩
/-- the region 'append(append([]T{}, l...), x)' -/
structure AaJ {α : Type} (E : El α) (w0 : World) (l : List α) (x : α) (b0 b2 b4 b5 : Value) (l0 l2 l4 l5 : Bool) (w : World) : Prop where
  low : Below w0.heap.size w0 w
  e0 : l0 = true → l2 = false → E.Own w w0.heap.size b0 []
  e2 : l2 = true → l5 = false → E.Own w w0.heap.size b2 l
  bx : l4 = true → l5 = false → ∃ k, b4 = .slice (some ⟨k, 0, none⟩) 1 1 ∧ w0.heap.size ≤ k ∧ k < w.heap.size ∧ E.At w (some ⟨k, 0, none⟩) [x] ∧ (l0 = true → l2 = false → b0.ownBlock ≠ some k) ∧ (l2 = true → b2.ownBlock ≠ some k)
  e5 : l5 = true → E.Own w w0.heap.size b5 (l ++ [x])
section
variable {α : Type} {E : El α} {w0 w w' : World} {l : List α} {x : α} {b0 b2 b4 b5 : Value} {l0 l2 l4 l5 : Bool}
theorem AaJ.start : AaJ E w0 l x b0 b2 b4 b5 false false false false w0.drew :=
  ⟨(Below.refl _ _).drew, fun e => (by cases e), fun e => (by cases e), fun e => (by cases e), fun e => (by cases e)⟩
theorem AaJ.nil (h : AaJ E w0 l x b0 b2 b4 b5 false false l4 false w) : AaJ E w0 l x (.slice (some ⟨w.heap.size, 0, none⟩) 0 0) b2 b4 b5 true false l4 false (w.alloc (.cells #[] E.T)) := by
  have hb : Below w.heap.size w (w.alloc (.cells #[] E.T)) := (Below.refl _ _).alloc (Nat.le_refl _) _
  refine ⟨h.low.trans (hb.mono h.low.size), fun _ _ => El.Own.lit w _ h.low.size [] (by simp) #[] rfl, fun e => (by cases e), fun e e' => ?_, fun e => (by cases e)⟩
  obtain ⟨k, a1, a2, a3, a4, a5, a6⟩ := h.bx e e'
  refine ⟨k, a1, a2, by rw [World.size_alloc]; omega, a4.later hb, fun _ _ e => ?_, fun e => (by cases e)⟩
  have : w.heap.size = k := by simpa [Value.ownBlock] using e
  omega
theorem AaJ.app1 {v' : Value} (h : AaJ E w0 l x b0 b2 b4 b5 true false l4 false w) (ho : E.Own w' w0.heap.size v' l) (hg : w.grownBy w' b0.ownBlock) (hn : ∀ b, v'.ownBlock = some b → b0.ownBlock = some b ∨ w.heap.size ≤ b) : AaJ E w0 l x b0 v' b4 b5 true true l4 false w' := by
  have hr : ∀ k, b0.ownBlock = some k → w0.heap.size ≤ k := fun k hk => ((h.e0 rfl rfl).lt k hk).1
  refine ⟨h.low.grown hg h.low.size hr, fun _ e => (by cases e), fun _ _ => ho, fun e e' => ?_, fun e => (by cases e)⟩
  obtain ⟨k, a1, a2, a3, a4, a5, a6⟩ := h.bx e e'
  refine ⟨k, a1, a2, Nat.lt_of_lt_of_le a3 hg.size, a4.blk (hg.block k a3 fun e2 => a5 rfl rfl e2.symm), fun _ e => (by cases e), fun _ e => ?_⟩
  rcases hn k e with h4 | h4
  · exact a5 rfl rfl h4
  · omega
theorem AaJ.one (h : AaJ E w0 l x b0 b2 b4 b5 l0 l2 false false w) (cs : Array Value) (hc : cs = (E.cf x).toArray) : AaJ E w0 l x b0 b2 (.slice (some ⟨w.heap.size, 0, none⟩) 1 1) b5 l0 l2 true false (w.alloc (.cells cs E.T)) := by
  have hb : Below w.heap.size w (w.alloc (.cells cs E.T)) := (Below.refl _ _).alloc (Nat.le_refl _) _
  refine ⟨h.low.trans (hb.mono h.low.size), fun e e' => El.Own.later (h.e0 e e') hb, fun e e' => El.Own.later (h.e2 e e') hb, fun _ _ => ⟨_, rfl, h.low.size, by rw [World.size_alloc]; omega, El.at_lit' E w [x] cs E.T (by rw [hc]; simp), fun e e' e2 => ?_, fun e e2 => ?_⟩, fun e => (by cases e)⟩
  · have := ((h.e0 e e').lt _ e2).2; omega
  · have := ((h.e2 e rfl).lt _ e2).2; omega
theorem AaJ.app2 {v' : Value} (h : AaJ E w0 l x b0 b2 b4 b5 true true true false w) (ho : E.Own w' w0.heap.size v' (l ++ [x])) (hg : w.grownBy w' b2.ownBlock) : AaJ E w0 l x b0 b2 b4 v' true true true true w' := by
  have hr : ∀ k, b2.ownBlock = some k → w0.heap.size ≤ k := fun k hk => ((h.e2 rfl rfl).lt k hk).1
  exact ⟨h.low.grown hg h.low.size hr, fun _ e => (by cases e), fun _ e => (by cases e), fun _ e => (by cases e), fun _ => ho⟩
theorem AaJ.run1 (h : AaJ E w0 l x b0 b2 b4 b5 true false l4 false w) (a : Option Addr) (c : Nat) (hat : E.At w a l) (hl : l.length ≤ 100000000) (ty : TypeId) : ∃ v' w', (Builtin.append_ #[E.TS, E.TS] ty #[b0, .slice a l.length c]).run Try.prog w = .ok v' w' ∧ AaJ E w0 l x b0 v' b4 b5 true true l4 false w' := by
  obtain ⟨v', w', hr, ho, hg, hn⟩ := El.app (E := E) w w0.heap.size b0 [] l (h.e0 rfl rfl) a c hat (by simpa using hl) h.low.size ty
  exact ⟨v', w', hr, h.app1 (by simpa using ho) hg hn⟩
theorem AaJ.run2 (h : AaJ E w0 l x b0 b2 b4 b5 true true true false w) (hl : l.length + 1 ≤ 100000000) (ty : TypeId) : ∃ v' w', (Builtin.append_ #[E.TS, E.TS] ty #[b2, b4]).run Try.prog w = .ok v' w' ∧ AaJ E w0 l x b0 b2 b4 v' true true true true w' := by
  obtain ⟨k, e, _, _, hat, _⟩ := h.bx rfl rfl
  obtain ⟨v', w', hr, ho, hg, _⟩ := El.app (E := E) w w0.heap.size b2 l [x] (h.e2 rfl rfl) (some ⟨k, 0, none⟩) 1 hat (by simpa using hl) h.low.size ty
  exact ⟨v', w', by rw [e]; exact hr, h.app2 ho hg⟩
end
/-- a list with a position put into it -/
def PutOf (l : List PA) (x : PA) (l' : List PA) : Prop :=
  (∃ i, ∃ h : i < l.length, cmpP l[i].1 x.1 = 0 ∧ l' = l) ∨ ∃ i, i ≤ l.length ∧ (∀ j (h : j < l.length), j < i → cmpP l[j].1 x.1 < 0) ∧ (∀ h : i < l.length, 0 < cmpP l[i].1 x.1) ∧ l' = l.take i ++ x :: l.drop i
def RetPut (l : List PA) (x : PA) (w : World) (e : Ending) (w' : World) : Prop := ∃ a c l', e = .returned (.slice a l'.length c) ∧ PutOf l x l' ∧ EQ.At w' a l' ∧ l'.length ≤ c ∧ c ≤ maxLen ∧ Below w.heap.size w w'
set_option maxRecDepth 100000 in
set_option maxHeartbeats 4000000 in
theorem put_any (n : Nat) (l : List PA) (a : Option Addr) (c : Nat) (x : PA) (w : World) (hL : LiI n n w a l) (hlc : l.length ≤ c ∧ c ≤ maxLen) (hll : l.length ≤ 1000000) (hP : PsAt w x.1 x.2.1 x.2.2.2.1) (hn : x.1.starts.length = n) (hm : x.1.failed.length = n) (hb : n ≤ 1000) :
    Calls Try.prog 57 #[.slice a l.length c, .agg (psCs x).toArray] w (RetPut l x w) := by
  have hrc : ∀ i (h : i < l.length) wy, Below w.heap.size w wy → Calls Try.prog 23 #[.agg (psCs l[i]).toArray, .agg (psCs x).toArray] wy (RetB (.int .i64 (cmpP l[i].1 x.1)) wy) := fun i h wy hy => by
    obtain ⟨h1, h2⟩ := hL.len l[i] (List.getElem_mem h)
    exact rcmp_any l[i] x wy (((hL.later hy).ps) _ (List.getElem_mem h)) (hP.later hy) (by rw [hn, h1]) (by rw [hm, h2]) (by rw [h1, h2]; omega)
  obtain ⟨⟨xt, xs, xf, xb, xc, xd⟩, xsa, xsc, xfa, xfc⟩ := x
  replace hn : xs.length = n := hn
  replace hm : xf.length = n := hm
  obtain ⟨X, hX⟩ : ∃ X : PA, X = (⟨xt, xs, xf, xb, xc, xd⟩, xsa, xsc, xfa, xfc) := ⟨_, rfl⟩
  have hxc : psCs X = [.int .i64 xt, .slice xsa n xsc, .slice xfa n xfc, .int .i64 xb, .int .i64 xc, .int .i64 xd] := by
    rw [hX]
    show [Value.int .i64 xt, Value.slice xsa xs.length xsc, Value.slice xfa xf.length xfc, Value.int .i64 xb, Value.int .i64 xc, Value.int .i64 xd] = _
    rw [hn, hm]
  rw [← hX] at hrc ⊢
  rw [hxc] at hrc ⊢
  obtain ⟨ll, hll2⟩ : ∃ n, n = l.length := ⟨_, rfl⟩
  rw [← hll2] at hll hlc ⊢
  have HRC := Lib.hid hrc
  have HL := Lib.hid hL
  have HLL := Lib.hid hll2
  have HXC := Lib.hid hxc
  obtain ⟨hlc1, hlc2⟩ := hlc
  have HLC := Lib.hid (And.intro hlc1 hlc2)
  clear hrc hL hP hn hm hX hxc hll2 hlc2
  go_enter Try.func57, Try.ntmps57
  go_upto_region 1 with fail
  refine wp_named ?_
  intro w1 hw1
  obtain ⟨hb1, hs1, hx1, _⟩ := alloc1 w [.int .i64 xt, .slice xsa n xsc, .slice xfa n xfc, .int .i64 xb, .int .i64 xc, .int .i64 xd] _ w1 hw1
  have HB1 := Lib.hid hb1
  have HX1 := Lib.hid hx1
  clear hw1 hb1 hs1 hx1
  go_wp2_with fail
  go_loopg [5] (ll + 1) (fun gk v5 wr => ∃ i : Nat, i ≤ ll ∧ gk + i = ll + 1 ∧ v5 = .int .i64 i ∧ Below w1.heap.size w1 wr ∧ ∀ j (h : j < l.length), j < i → cmpP l[j].1 X.1 < 0)
  case atStart => exact ⟨0, by omega, by omega, rfl, Below.refl _ _, fun j _ h => by omega⟩
  case round =>
    obtain ⟨i, hi, hgi, rfl, hbr, hlo⟩ := hrel
    obtain ⟨wq, hwq⟩ : ∃ wq, wq = wr := ⟨_, rfl⟩
    subst hwq
    have HBR := Lib.hid hbr
    have HLO := Lib.hid hlo
    have hbw := HB1.out.trans (hbr.mono HB1.out.size)
    have HBW := Lib.hid hbw
    clear hlo
    by_cases hlt : i < ll
    · have hiL : i < l.length := by have := HLL.out; omega
      have hLq := HL.out.later hbw
      obtain ⟨b, off, rfl, _⟩ := hLq.at'.head (by omega)
      have hrng := hLq.at'.range hiL
      rw [show off + i * EQ.S = off + i * 6 from rfl] at hrng
      have hcl := HRC.out i hiL
      have hlen := hLq.len l[i] (List.getElem_mem hiL)
      obtain ⟨r, hr⟩ : ∃ r, r = cmpP l[i].1 X.1 := ⟨_, rfl⟩
      simp only [← hr] at hcl
      have HR := Lib.hid hr
      obtain ⟨y, hy⟩ : ∃ y, y = l[i] := ⟨_, rfl⟩
      rw [← hy] at hrng hlen
      simp only [← hy] at hcl
      obtain ⟨⟨yt, ys, yf, yb, yc, yd⟩, ysa, ysc, yfa, yfc⟩ := y
      have hyc : psCs (⟨yt, ys, yf, yb, yc, yd⟩, ysa, ysc, yfa, yfc) = [.int .i64 yt, .slice ysa n ysc, .slice yfa n yfc, .int .i64 yb, .int .i64 yc, .int .i64 yd] := by
        have h1 : ys.length = n := hlen.1
        have h2 : yf.length = n := hlen.2
        show [Value.int .i64 yt, Value.slice ysa ys.length ysc, Value.slice yfa yf.length yfc, Value.int .i64 yb, Value.int .i64 yc, Value.int .i64 yd] = _
        rw [h1, h2]
      simp only [hyc] at hcl
      have hrng' : wq.rangeAt b (off + i * 6) [.int .i64 yt, .slice ysa n ysc, .slice yfa n yfc, .int .i64 yb, .int .i64 yc, .int .i64 yd] := by rw [← hyc]; exact hrng
      have x0 : wq.cell? ⟨b, off + i * 6, none⟩ = some (.int .i64 yt) := hrng' 0 _ rfl
      have x1 : wq.cell? ⟨b, off + i * 6 + 1, none⟩ = some (.slice ysa n ysc) := hrng' 1 _ rfl
      have x2 : wq.cell? ⟨b, off + i * 6 + 2, none⟩ = some (.slice yfa n yfc) := hrng' 2 _ rfl
      have x3 : wq.cell? ⟨b, off + i * 6 + 3, none⟩ = some (.int .i64 yb) := hrng' 3 _ rfl
      have x4 : wq.cell? ⟨b, off + i * 6 + 4, none⟩ = some (.int .i64 yc) := hrng' 4 _ rfl
      have x5 : wq.cell? ⟨b, off + i * 6 + 5, none⟩ = some (.int .i64 yd) := hrng' 5 _ rfl
      have HCL := Lib.hid hcl
      have i1 : (i : Int) < (ll : Int) := by omega
      have i0 : (0 : Int) ≤ (i : Int) := by omega
      have HLT := Lib.hid hlt
      have hS : ∀ wy : World, Below wq.heap.size wq wy → Below wq.heap.size wq wy ∧ wy.cell? ⟨w.heap.size, 0, none⟩ = some (.int .i64 xt) ∧ wy.cell? ⟨w.heap.size, 1, none⟩ = some (.slice xsa n xsc) ∧ wy.cell? ⟨w.heap.size, 2, none⟩ = some (.slice xfa n xfc) ∧ wy.cell? ⟨w.heap.size, 3, none⟩ = some (.int .i64 xb) ∧ wy.cell? ⟨w.heap.size, 4, none⟩ = some (.int .i64 xc) ∧ wy.cell? ⟨w.heap.size, 5, none⟩ = some (.int .i64 xd)
          ∧ wy.cell? ⟨b, off + i * 6, none⟩ = some (.int .i64 yt) ∧ wy.cell? ⟨b, off + i * 6 + 1, none⟩ = some (.slice ysa n ysc) ∧ wy.cell? ⟨b, off + i * 6 + 2, none⟩ = some (.slice yfa n yfc) ∧ wy.cell? ⟨b, off + i * 6 + 3, none⟩ = some (.int .i64 yb) ∧ wy.cell? ⟨b, off + i * 6 + 4, none⟩ = some (.int .i64 yc) ∧ wy.cell? ⟨b, off + i * 6 + 5, none⟩ = some (.int .i64 yd) := fun wy hy => by
        have h := HX1.out.later (HBR.out.trans (hy.mono HBR.out.size))
        exact ⟨hy, (h 0 _ rfl).1, (h 1 _ rfl).1, (h 2 _ rfl).1, (h 3 _ rfl).1, (h 4 _ rfl).1, (h 5 _ rfl).1, cell_later hy x0, cell_later hy x1, cell_later hy x2, cell_later hy x3, cell_later hy x4, cell_later hy x5⟩
      clear hcl hlen hLq hrng hrng' hyc hr hy x0 x1 x2 x3 x4 x5 hlt hbr hbw
      by_cases hr0 : r < 0
      · have r1 : decide (r < 0) = true := decide_eq_true hr0
        have HNX := Lib.hid (show ∀ j (h : j < l.length), j < i + 1 → cmpP l[j].1 X.1 < 0 from fun j h hj => by
          by_cases hji : j < i
          · exact HLO.out j h hji
          · obtain rfl : j = i := by omega
            rw [← HR.out]
            exact hr0)
        go_upto_region 2 with fail
        refine wp_flow_s [] [] (by kernel_rfl) (by kernel_rfl) (by kernel_rfl) ?_
        repeat (first | ((with_reducible refine Flow.pure hS StayG.nil (v := ?_) ?_ ?_ ?_ ?_); rotate_left 1; (focus kernel_rfl); (focus (intro _; rfl)); (focus (intro β wx hSw; (try dsimp only at hSw); go_simp; (try with_reducible rfl); done)); (try simp only [Act.put, List.setIfInBounds_toArray, List.set_cons_zero, List.set_cons_succ, Nat.reduceAdd])) | ((with_reducible refine Flow.skip StayG.nil ?_ ?_ ?_); (focus kernel_rfl); (focus (intro _; rfl)); (try simp only [Act.put, List.setIfInBounds_toArray, List.set_cons_zero, List.set_cons_succ, Nat.reduceAdd])) | ((with_reducible refine Flow.call hS StayG.nil (v := ?_) ?_ ?_ ?_ ?_); rotate_left 1; (focus kernel_rfl); (focus (intro _; rfl)); (focus (intro β L wx hI hat hSw K' hK; (try dsimp only at hSw); go_simp; go_at_call 23; refine Calls.mono (HCL.out _ (HBW.out.trans (hSw.1.mono HBW.out.size))) ?_; rintro e w' ⟨rfl, hb'⟩; exact hK.out _ hb')); (try simp only [Act.put, List.setIfInBounds_toArray, List.set_cons_zero, List.set_cons_succ, Nat.reduceAdd])))
        ((with_reducible refine Flow.stop ?_); dsimp only; intro β w4 hI4)
        have HB4 := Lib.hid (HBR.out.trans (hI4.below.mono HBR.out.size))
        clear hS hI4
        go_wp2_with fail
        go_roundg (ll - i)
        case measure => have := HLT.out; omega
        case rel => exact ⟨i + 1, HLT.out, by have := HLT.out; omega, by go_num, HB4.out, HNX.out⟩
      · have r1 : decide (r < 0) = false := decide_eq_false hr0
        go_upto_region 2 with fail
        refine wp_flow_s [] [] (by kernel_rfl) (by kernel_rfl) (by kernel_rfl) ?_
        repeat (first | ((with_reducible refine Flow.pure hS StayG.nil (v := ?_) ?_ ?_ ?_ ?_); rotate_left 1; (focus kernel_rfl); (focus (intro _; rfl)); (focus (intro β wx hSw; (try dsimp only at hSw); go_simp; (try with_reducible rfl); done)); (try simp only [Act.put, List.setIfInBounds_toArray, List.set_cons_zero, List.set_cons_succ, Nat.reduceAdd])) | ((with_reducible refine Flow.skip StayG.nil ?_ ?_ ?_); (focus kernel_rfl); (focus (intro _; rfl)); (try simp only [Act.put, List.setIfInBounds_toArray, List.set_cons_zero, List.set_cons_succ, Nat.reduceAdd])) | ((with_reducible refine Flow.call hS StayG.nil (v := ?_) ?_ ?_ ?_ ?_); rotate_left 1; (focus kernel_rfl); (focus (intro _; rfl)); (focus (intro β L wx hI hat hSw K' hK; (try dsimp only at hSw); go_simp; go_at_call 23; refine Calls.mono (HCL.out _ (HBW.out.trans (hSw.1.mono HBW.out.size))) ?_; rintro e w' ⟨rfl, hb'⟩; exact hK.out _ hb')); (try simp only [Act.put, List.setIfInBounds_toArray, List.set_cons_zero, List.set_cons_succ, Nat.reduceAdd])))
        ((with_reducible refine Flow.stop ?_); dsimp only; intro β w4 hI4)
        have HB4 := Lib.hid (HBR.out.trans (hI4.below.mono HBR.out.size))
        have hS4 := hS
        replace hS : ∀ wy : World, Below w4.heap.size w4 wy → _ := fun wy hy => hS4 wy (hI4.below.trans (hy.mono hI4.below.size))
        clear hS4 hI4 r1
        by_cases hre : r = 0
        · subst hre
          go_upto_region 4 with fail
          refine wp_flow_s [] [] (by kernel_rfl) (by kernel_rfl) (by kernel_rfl) ?_
          repeat (first | ((with_reducible refine Flow.pure hS StayG.nil (v := ?_) ?_ ?_ ?_ ?_); rotate_left 1; (focus kernel_rfl); (focus (intro _; rfl)); (focus (intro β wx hSw; (try dsimp only at hSw); go_simp; (try with_reducible rfl); done)); (try simp only [Act.put, List.setIfInBounds_toArray, List.set_cons_zero, List.set_cons_succ, Nat.reduceAdd])) | ((with_reducible refine Flow.skip StayG.nil ?_ ?_ ?_); (focus kernel_rfl); (focus (intro _; rfl)); (try simp only [Act.put, List.setIfInBounds_toArray, List.set_cons_zero, List.set_cons_succ, Nat.reduceAdd])) | ((with_reducible refine Flow.call hS StayG.nil (v := ?_) ?_ ?_ ?_ ?_); rotate_left 1; (focus kernel_rfl); (focus (intro _; rfl)); (focus (intro β L wx hI hat hSw K' hK; (try dsimp only at hSw); go_simp; go_at_call 23; refine Calls.mono (HCL.out _ (HBW.out.trans (hSw.1.mono HBW.out.size))) ?_; rintro e w' ⟨rfl, hb'⟩; exact hK.out _ hb')); (try simp only [Act.put, List.setIfInBounds_toArray, List.set_cons_zero, List.set_cons_succ, Nat.reduceAdd])))
          ((with_reducible refine Flow.stop ?_); dsimp only; intro β2 w5 hI5)
          have HB5 := Lib.hid (HB4.out.trans (hI5.below.mono HB4.out.size))
          have HBE := Lib.hid (HB1.out.trans (HB5.out.mono HB1.out.size))
          clear hS hI5
          go_wp2_with fail
          go_ret
          exact ⟨some ⟨b, off, none⟩, c, l, by rw [HLL.out]; rfl, .inl ⟨i, hiL, by rw [← HR.out], rfl⟩, (HL.out.later HBE.out).at', by rw [← HLL.out]; exact HLC.out.1, HLC.out.2, HBE.out⟩
        · have r2 : (r == 0) = false := by simpa using hre
          have HPO := Lib.hid (show PutOf l X (l.take i ++ X :: l.drop i) from .inr ⟨i, by omega, HLO.out, fun h => by rw [← HR.out]; omega, rfl⟩)
          go_upto_region 4 with fail
          refine wp_flow_s [] [] (by kernel_rfl) (by kernel_rfl) (by kernel_rfl) ?_
          repeat (first | ((with_reducible refine Flow.pure hS StayG.nil (v := ?_) ?_ ?_ ?_ ?_); rotate_left 1; (focus kernel_rfl); (focus (intro _; rfl)); (focus (intro β wx hSw; (try dsimp only at hSw); go_simp; (try with_reducible rfl); done)); (try simp only [Act.put, List.setIfInBounds_toArray, List.set_cons_zero, List.set_cons_succ, Nat.reduceAdd])) | ((with_reducible refine Flow.skip StayG.nil ?_ ?_ ?_); (focus kernel_rfl); (focus (intro _; rfl)); (try simp only [Act.put, List.setIfInBounds_toArray, List.set_cons_zero, List.set_cons_succ, Nat.reduceAdd])) | ((with_reducible refine Flow.call hS StayG.nil (v := ?_) ?_ ?_ ?_ ?_); rotate_left 1; (focus kernel_rfl); (focus (intro _; rfl)); (focus (intro β L wx hI hat hSw K' hK; (try dsimp only at hSw); go_simp; go_at_call 23; refine Calls.mono (HCL.out _ (HBW.out.trans (hSw.1.mono HBW.out.size))) ?_; rintro e w' ⟨rfl, hb'⟩; exact hK.out _ hb')); (try simp only [Act.put, List.setIfInBounds_toArray, List.set_cons_zero, List.set_cons_succ, Nat.reduceAdd])))
          ((with_reducible refine Flow.stop ?_); dsimp only; intro β2 w5 hI5)
          have HB5 := Lib.hid (HB4.out.trans (hI5.below.mono HB4.out.size))
          clear hS hI5
          have hL5 := (HL.out.later (HB1.out.trans (HB5.out.mono HB1.out.size))).at'
          have hAI := hL5.sub 0 i
          have hAD := hL5.sub i (ll - i)
          rw [List.drop_zero, show off + 0 * EQ.S = off from by show off + 0 * 6 = off; omega] at hAI
          rw [show (l.drop i).take (ll - i) = l.drop i from List.take_of_length_le (by rw [List.length_drop, HLL.out]; exact Nat.le_refl _), show off + i * EQ.S = off + i * 6 from rfl] at hAD
          have hiL2 : (l.take i).length = i := by rw [List.length_take]; omega
          have hdL2 : (l.drop i).length = ll - i := by rw [List.length_drop, HLL.out]
          have HAI := Lib.hid hAI
          have HAD := Lib.hid hAD
          have HIL := Lib.hid hiL2
          have HDL := Lib.hid hdL2
          have s1 : (i : Int) ≤ (ll : Int) := by omega
          have s2 : (i : Int) ≤ (c : Int) := by omega
          have s3 : (ll : Int) ≤ (c : Int) := by omega
          have s4 : ¬ c = i := by omega
          have HX5 := Lib.hid (show ∀ wy, Below w5.heap.size w5 wy → wy.cell? ⟨w.heap.size, 0, none⟩ = some (.int .i64 xt) ∧ wy.cell? ⟨w.heap.size, 1, none⟩ = some (.slice xsa n xsc) ∧ wy.cell? ⟨w.heap.size, 2, none⟩ = some (.slice xfa n xfc) ∧ wy.cell? ⟨w.heap.size, 3, none⟩ = some (.int .i64 xb) ∧ wy.cell? ⟨w.heap.size, 4, none⟩ = some (.int .i64 xc) ∧ wy.cell? ⟨w.heap.size, 5, none⟩ = some (.int .i64 xd) from fun wy hy => by
            have h := HX1.out.later (HB5.out.trans (hy.mono HB5.out.size))
            exact ⟨(h 0 _ rfl).1, (h 1 _ rfl).1, (h 2 _ rfl).1, (h 3 _ rfl).1, (h 4 _ rfl).1, (h 5 _ rfl).1⟩)
          clear hL5 hAI hAD hiL2 hdL2
          go_upto_region 6 with fail
          refine wp_flow_j (fun β L' w' => (L' 11 = false → AaJ EQ w5 (l.take (i)) X (β 0) (β 4) (β 6) (β 7) (L' 0) (L' 4) (L' 6) (L' 7) w') ∧ (L' 11 = true → Below w5.heap.size w5 w' ∧ EQ.Own w' w5.heap.size (β 11) (l.take (i) ++ [X] ++ l.drop (i)))) (by kernel_rfl) (by kernel_rfl) ?h0 ?_
          case h0 => exact ⟨fun _ => AaJ.start, fun e => (by cases e)⟩
          ((with_reducible refine FlowJ.ghost ?_ ?_ ?_); (focus (intro _; rfl)); (focus (intro β L' w' hJ hat K' hK; (try dsimp only at hJ); ((have n4 := hat.not (j := 4) (by kernel_rfl)); (have n7 := hat.not (j := 7) (by kernel_rfl)); (have n11 := hat.not (j := 11) (by kernel_rfl)); have un := hat.un; simp only [un, n4, n7, n11] at hJ; have hA := hJ.1 trivial; go_simp; refine hK.out _ _ ?_; simp only [updG, setL, Nat.reduceEqDiff, if_true, if_false, n4, n7, n11]; exact ⟨fun _ => hA.nil, fun e => (by cases e)⟩))); (try simp only [Act.put, List.setIfInBounds_toArray, List.set_cons_zero, List.set_cons_succ, Nat.reduceAdd]))
          iterate 2 (((with_reducible refine FlowJ.pure (v := ?_) ?_ ?_ ?_ ?_); rotate_left 1; (focus (intro _; rfl)); (focus (intro β L' w' hJ hat; (try dsimp only at hJ); (try dsimp only); simpa only [setL, Nat.reduceEqDiff, if_false] using hJ)); (focus (intro β L' w' hJ hat; (try dsimp only at hJ); skip; go_simp; (try with_reducible rfl); done)); (try simp only [Act.put, List.setIfInBounds_toArray, List.set_cons_zero, List.set_cons_succ, Nat.reduceAdd])))
          ((with_reducible refine FlowJ.pure (v := .slice (some ⟨b, off, none⟩) (i) c) ?_ ?_ ?_ ?_); (focus (intro _; rfl)); (focus (intro β L' w' hJ hat; (try dsimp only at hJ); (try dsimp only); simpa only [setL, Nat.reduceEqDiff, if_false] using hJ)); (focus (intro β L' w' hJ hat; (try dsimp only at hJ); (go_simp; (try with_reducible rfl); done))); (try simp only [Act.put, List.setIfInBounds_toArray, List.set_cons_zero, List.set_cons_succ, Nat.reduceAdd]))
          ((with_reducible refine FlowJ.ghost ?_ ?_ ?_); (focus (intro _; rfl)); (focus (intro β L' w' hJ hat K' hK; (try dsimp only at hJ); ((have p0 := hat.pre 0 (by kernel_rfl)); (have n7 := hat.not (j := 7) (by kernel_rfl)); (have n11 := hat.not (j := 11) (by kernel_rfl)); have un := hat.un; simp only [un, p0, n7, n11] at hJ; have hA := hJ.1 trivial; obtain ⟨v', w2, hr, hA2⟩ := hA.run1 (some ⟨b, off, none⟩) c (HAI.out.later hA.low) (by rw [HIL.out]; omega) 31; rw [HIL.out] at hr; refine wp_app_eq (.tmp 35) (.tmp 38) 31 rfl _ _ rfl rfl hr ?_; refine hK.out _ _ ?_; simp only [updG, setL, Nat.reduceEqDiff, if_true, if_false, p0, n7, n11]; exact ⟨fun _ => hA2, fun e => (by cases e)⟩))); (try simp only [Act.put, List.setIfInBounds_toArray, List.set_cons_zero, List.set_cons_succ, Nat.reduceAdd]))
          ((with_reducible refine FlowJ.pure (v := ?_) ?_ ?_ ?_ ?_); rotate_left 1; (focus (intro _; rfl)); (focus (intro β L' w' hJ hat; (try dsimp only at hJ); (try dsimp only); simpa only [setL, Nat.reduceEqDiff, if_false] using hJ)); (focus (intro β L' w' hJ hat; (try dsimp only at hJ); ((have n11 := hat.not (j := 11) (by kernel_rfl)); have hA := hJ.1 n11; obtain ⟨g0, g1, g2, g3, g4, g5⟩ := HX5.out w' hA.low); go_simp; (try with_reducible rfl); done)); (try simp only [Act.put, List.setIfInBounds_toArray, List.set_cons_zero, List.set_cons_succ, Nat.reduceAdd]))
          ((with_reducible refine FlowJ.ghost ?_ ?_ ?_); (focus (intro _; rfl)); (focus (intro β L' w' hJ hat K' hK; (try dsimp only at hJ); ((have n7 := hat.not (j := 7) (by kernel_rfl)); (have n11 := hat.not (j := 11) (by kernel_rfl)); have un := hat.un; simp only [un, n7, n11] at hJ; have hA := hJ.1 trivial; go_simp; refine hK.out _ _ ?_; simp only [updG, setL, Nat.reduceEqDiff, if_true, if_false, n7, n11]; exact ⟨fun _ => hA.one _ (by show _ = (psCs X).toArray; rw [HXC.out]), fun e => (by cases e)⟩))); (try simp only [Act.put, List.setIfInBounds_toArray, List.set_cons_zero, List.set_cons_succ, Nat.reduceAdd]))
          ((with_reducible refine FlowJ.ghost ?_ ?_ ?_); (focus (intro _; rfl)); (focus (intro β L' w' hJ hat K' hK; (try dsimp only at hJ); ((have p4 := hat.pre 4 (by kernel_rfl)); (have p6 := hat.pre 6 (by kernel_rfl)); have p0 := hat.down 4 0 p4 (by decide) (by kernel_rfl); (have n11 := hat.not (j := 11) (by kernel_rfl)); have un := hat.un; simp only [un, p0, p4, p6, n11] at hJ; have hA := hJ.1 trivial; obtain ⟨v', w2, hr, hA2⟩ := hA.run2 (by rw [HIL.out]; omega) 31; refine wp_app_eq (.tmp 39) (.tmp 41) 31 rfl _ _ rfl rfl hr ?_; refine hK.out _ _ ?_; simp only [updG, setL, Nat.reduceEqDiff, if_true, if_false, p0, p4, p6, n11]; exact ⟨fun _ => hA2, fun e => (by cases e)⟩))); (try simp only [Act.put, List.setIfInBounds_toArray, List.set_cons_zero, List.set_cons_succ, Nat.reduceAdd]))
          iterate 2 (((with_reducible refine FlowJ.pure (v := ?_) ?_ ?_ ?_ ?_); rotate_left 1; (focus (intro _; rfl)); (focus (intro β L' w' hJ hat; (try dsimp only at hJ); (try dsimp only); simpa only [setL, Nat.reduceEqDiff, if_false] using hJ)); (focus (intro β L' w' hJ hat; (try dsimp only at hJ); skip; go_simp; (try with_reducible rfl); done)); (try simp only [Act.put, List.setIfInBounds_toArray, List.set_cons_zero, List.set_cons_succ, Nat.reduceAdd])))
          ((with_reducible refine FlowJ.pure (v := .slice (some ⟨b, off + i * 6, none⟩) (ll - i) (c - i)) ?_ ?_ ?_ ?_); (focus (intro _; rfl)); (focus (intro β L' w' hJ hat; (try dsimp only at hJ); (try dsimp only); simpa only [setL, Nat.reduceEqDiff, if_false] using hJ)); (focus (intro β L' w' hJ hat; (try dsimp only at hJ); (go_simp; (try with_reducible rfl); done))); (try simp only [Act.put, List.setIfInBounds_toArray, List.set_cons_zero, List.set_cons_succ, Nat.reduceAdd]))
          ((with_reducible refine FlowJ.ghost ?_ ?_ ?_); (focus (intro _; rfl)); (focus (intro β L' w' hJ hat K' hK; (try dsimp only at hJ); ((have p7 := hat.pre 7 (by kernel_rfl)); have p6 := hat.down 7 6 p7 (by decide) (by kernel_rfl); have p4 := hat.down 7 4 p7 (by decide) (by kernel_rfl); have p0 := hat.down 4 0 p4 (by decide) (by kernel_rfl); have un := hat.un; simp only [un, p0, p4, p6, p7] at hJ; have hA := hJ.1 trivial; obtain ⟨v', w2, hr, ho, hg, hnn⟩ := El.app (E := EQ) w' w5.heap.size (β 7) (l.take (i) ++ [X]) (l.drop (i)) (hA.e5 rfl) (some ⟨b, off + i * 6, none⟩) (c - i) (HAD.out.later hA.low) (by rw [List.length_append, HIL.out, HDL.out]; simp <;> omega) hA.low.size 31; rw [HDL.out] at hr; refine wp_app_eq (.tmp 42) (.tmp 45) 31 rfl _ _ rfl rfl hr ?_; refine hK.out _ _ ?_; simp only [updG, setL, Nat.reduceEqDiff, if_true, if_false, p0, p4, p6, p7]; exact ⟨fun e => (by cases e), fun _ => ⟨hA.low.grown hg hA.low.size (fun k hk => ((hA.e5 rfl).lt k hk).1), ho⟩⟩))); (try simp only [Act.put, List.setIfInBounds_toArray, List.set_cons_zero, List.set_cons_succ, Nat.reduceAdd]))
          (refine FlowJ.pureG (v := fun β => β 11) (fun β k b hk => updG_ne β b (fun e => by subst e; exact Bool.false_ne_true (hk.symm.trans (by kernel_rfl)))) (fun β b => rfl) (fun _ => rfl) (fun β L' w' hJ hat => by simpa only [setL, Nat.reduceEqDiff, if_false] using hJ) (fun β L' w' hJ hat => by go_simp; (try with_reducible rfl); done) ?_; (try simp only [Act.put, List.setIfInBounds_toArray, List.set_cons_zero, List.set_cons_succ, Nat.reduceAdd]))
          refine FlowJ.stop ?_
          dsimp only
          intro β w6 hJ
          obtain ⟨hb6, ho6⟩ := hJ.2 trivial
          rw [show l.take (i) ++ [X] ++ l.drop (i) = l.take (i) ++ X :: l.drop (i) by simp] at ho6
          obtain ⟨a6, c6, e6, h1, h2, hat6, _⟩ := ho6.at
          have HE6 := Lib.hid e6
          have HB6 := Lib.hid ((HB1.out.trans (HB5.out.mono HB1.out.size)).trans (hb6.mono (Nat.le_trans HB1.out.size HB5.out.size)))
          have HAT6 := Lib.hid hat6
          have HCC := Lib.hid (And.intro h1 h2)
          clear hJ hb6 ho6 e6 hat6 h1 h2
          go_wp2_with fail
          go_ret
          exact ⟨a6, c6, _, by rw [← HE6.out]; rfl, HPO.out, HAT6.out, HCC.out.1, HCC.out.2, HB6.out⟩
    · obtain rfl : ll = i := by omega
      have HPO := Lib.hid (show PutOf l X (l.take ll ++ X :: l.drop ll) from .inr ⟨ll, by have := HLL.out; omega, HLO.out, fun h => by have := HLL.out; omega, rfl⟩)
      have hS : ∀ wy : World, Below wq.heap.size wq wy → Below wq.heap.size wq wy := fun wy hy => hy
      go_upto_region 2 with fail
      refine wp_flow_s [] [] (by kernel_rfl) (by kernel_rfl) (by kernel_rfl) ?_
      repeat (first | ((with_reducible refine Flow.pure hS StayG.nil (v := ?_) ?_ ?_ ?_ ?_); rotate_left 1; (focus kernel_rfl); (focus (intro _; rfl)); (focus (intro β wx hSw; (try dsimp only at hSw); go_simp; (try with_reducible rfl); done)); (try simp only [Act.put, List.setIfInBounds_toArray, List.set_cons_zero, List.set_cons_succ, Nat.reduceAdd])) | ((with_reducible refine Flow.skip StayG.nil ?_ ?_ ?_); (focus kernel_rfl); (focus (intro _; rfl)); (try simp only [Act.put, List.setIfInBounds_toArray, List.set_cons_zero, List.set_cons_succ, Nat.reduceAdd])))
      ((with_reducible refine Flow.stop ?_); dsimp only; intro β w4 hI4)
      have HB4 := Lib.hid (HBR.out.trans (hI4.below.mono HBR.out.size))
      clear hS hI4
      have hS : ∀ wy : World, Below w4.heap.size w4 wy → Below w4.heap.size w4 wy := fun wy hy => hy
      go_upto_region 4 with fail
      refine wp_flow_s [] [] (by kernel_rfl) (by kernel_rfl) (by kernel_rfl) ?_
      repeat (first | ((with_reducible refine Flow.pure hS StayG.nil (v := ?_) ?_ ?_ ?_ ?_); rotate_left 1; (focus kernel_rfl); (focus (intro _; rfl)); (focus (intro β wx hSw; (try dsimp only at hSw); go_simp; (try with_reducible rfl); done)); (try simp only [Act.put, List.setIfInBounds_toArray, List.set_cons_zero, List.set_cons_succ, Nat.reduceAdd])) | ((with_reducible refine Flow.skip StayG.nil ?_ ?_ ?_); (focus kernel_rfl); (focus (intro _; rfl)); (try simp only [Act.put, List.setIfInBounds_toArray, List.set_cons_zero, List.set_cons_succ, Nat.reduceAdd])))
      ((with_reducible refine Flow.stop ?_); dsimp only; intro β2 w5 hI5)
      have HB5 := Lib.hid (HB4.out.trans (hI5.below.mono HB4.out.size))
      clear hS hI5
      have hL5 := (HL.out.later (HB1.out.trans (HB5.out.mono HB1.out.size))).at'
      have hti : l.take ll = l := by rw [HLL.out, List.take_length]
      have hdi : l.drop ll = [] := by rw [HLL.out, List.drop_length]
      have HIL := Lib.hid (show (l.take ll).length = ll by rw [hti, HLL.out])
      have HDL := Lib.hid (show (l.drop ll).length = 0 by rw [hdi]; rfl)
      have HX5 := Lib.hid (show ∀ wy, Below w5.heap.size w5 wy → wy.cell? ⟨w.heap.size, 0, none⟩ = some (.int .i64 xt) ∧ wy.cell? ⟨w.heap.size, 1, none⟩ = some (.slice xsa n xsc) ∧ wy.cell? ⟨w.heap.size, 2, none⟩ = some (.slice xfa n xfc) ∧ wy.cell? ⟨w.heap.size, 3, none⟩ = some (.int .i64 xb) ∧ wy.cell? ⟨w.heap.size, 4, none⟩ = some (.int .i64 xc) ∧ wy.cell? ⟨w.heap.size, 5, none⟩ = some (.int .i64 xd) from fun wy hy => by
        have h := HX1.out.later (HB5.out.trans (hy.mono HB5.out.size))
        exact ⟨(h 0 _ rfl).1, (h 1 _ rfl).1, (h 2 _ rfl).1, (h 3 _ rfl).1, (h 4 _ rfl).1, (h 5 _ rfl).1⟩)
      have s1 : (ll : Int) ≤ (c : Int) := by omega
      cases a with
      | none =>
        have hl0 : l = [] := hL5.isNil
        obtain rfl : ll = 0 := by rw [HLL.out, hl0]; rfl
        have HAI := Lib.hid (show EQ.At w5 none (l.take 0) from by rw [hti]; exact hL5)
        have HAD := Lib.hid (show EQ.At w5 none (l.drop 0) from by rw [hdi]; exact El.At.nil)
        clear hL5 hti hdi hbr hbw hlt hl0
        · skip
          go_upto_region 6 with fail
          refine wp_flow_j (fun β L' w' => (L' 11 = false → AaJ EQ w5 (l.take (0)) X (β 0) (β 4) (β 6) (β 7) (L' 0) (L' 4) (L' 6) (L' 7) w') ∧ (L' 11 = true → Below w5.heap.size w5 w' ∧ EQ.Own w' w5.heap.size (β 11) (l.take (0) ++ [X] ++ l.drop (0)))) (by kernel_rfl) (by kernel_rfl) ?h0 ?_
          case h0 => exact ⟨fun _ => AaJ.start, fun e => (by cases e)⟩
          ((with_reducible refine FlowJ.ghost ?_ ?_ ?_); (focus (intro _; rfl)); (focus (intro β L' w' hJ hat K' hK; (try dsimp only at hJ); ((have n4 := hat.not (j := 4) (by kernel_rfl)); (have n7 := hat.not (j := 7) (by kernel_rfl)); (have n11 := hat.not (j := 11) (by kernel_rfl)); have un := hat.un; simp only [un, n4, n7, n11] at hJ; have hA := hJ.1 trivial; go_simp; refine hK.out _ _ ?_; simp only [updG, setL, Nat.reduceEqDiff, if_true, if_false, n4, n7, n11]; exact ⟨fun _ => hA.nil, fun e => (by cases e)⟩))); (try simp only [Act.put, List.setIfInBounds_toArray, List.set_cons_zero, List.set_cons_succ, Nat.reduceAdd]))
          iterate 2 (((with_reducible refine FlowJ.pure (v := ?_) ?_ ?_ ?_ ?_); rotate_left 1; (focus (intro _; rfl)); (focus (intro β L' w' hJ hat; (try dsimp only at hJ); (try dsimp only); simpa only [setL, Nat.reduceEqDiff, if_false] using hJ)); (focus (intro β L' w' hJ hat; (try dsimp only at hJ); skip; go_simp; (try with_reducible rfl); done)); (try simp only [Act.put, List.setIfInBounds_toArray, List.set_cons_zero, List.set_cons_succ, Nat.reduceAdd])))
          ((with_reducible refine FlowJ.pure (v := .slice (none) (0) c) ?_ ?_ ?_ ?_); (focus (intro _; rfl)); (focus (intro β L' w' hJ hat; (try dsimp only at hJ); (try dsimp only); simpa only [setL, Nat.reduceEqDiff, if_false] using hJ)); (focus (intro β L' w' hJ hat; (try dsimp only at hJ); (go_simp; (try with_reducible rfl); done))); (try simp only [Act.put, List.setIfInBounds_toArray, List.set_cons_zero, List.set_cons_succ, Nat.reduceAdd]))
          ((with_reducible refine FlowJ.ghost ?_ ?_ ?_); (focus (intro _; rfl)); (focus (intro β L' w' hJ hat K' hK; (try dsimp only at hJ); ((have p0 := hat.pre 0 (by kernel_rfl)); (have n7 := hat.not (j := 7) (by kernel_rfl)); (have n11 := hat.not (j := 11) (by kernel_rfl)); have un := hat.un; simp only [un, p0, n7, n11] at hJ; have hA := hJ.1 trivial; obtain ⟨v', w2, hr, hA2⟩ := hA.run1 (none) c (HAI.out.later hA.low) (by rw [HIL.out]; omega) 31; rw [HIL.out] at hr; refine wp_app_eq (.tmp 35) (.tmp 38) 31 rfl _ _ rfl rfl hr ?_; refine hK.out _ _ ?_; simp only [updG, setL, Nat.reduceEqDiff, if_true, if_false, p0, n7, n11]; exact ⟨fun _ => hA2, fun e => (by cases e)⟩))); (try simp only [Act.put, List.setIfInBounds_toArray, List.set_cons_zero, List.set_cons_succ, Nat.reduceAdd]))
          ((with_reducible refine FlowJ.pure (v := ?_) ?_ ?_ ?_ ?_); rotate_left 1; (focus (intro _; rfl)); (focus (intro β L' w' hJ hat; (try dsimp only at hJ); (try dsimp only); simpa only [setL, Nat.reduceEqDiff, if_false] using hJ)); (focus (intro β L' w' hJ hat; (try dsimp only at hJ); ((have n11 := hat.not (j := 11) (by kernel_rfl)); have hA := hJ.1 n11; obtain ⟨g0, g1, g2, g3, g4, g5⟩ := HX5.out w' hA.low); go_simp; (try with_reducible rfl); done)); (try simp only [Act.put, List.setIfInBounds_toArray, List.set_cons_zero, List.set_cons_succ, Nat.reduceAdd]))
          ((with_reducible refine FlowJ.ghost ?_ ?_ ?_); (focus (intro _; rfl)); (focus (intro β L' w' hJ hat K' hK; (try dsimp only at hJ); ((have n7 := hat.not (j := 7) (by kernel_rfl)); (have n11 := hat.not (j := 11) (by kernel_rfl)); have un := hat.un; simp only [un, n7, n11] at hJ; have hA := hJ.1 trivial; go_simp; refine hK.out _ _ ?_; simp only [updG, setL, Nat.reduceEqDiff, if_true, if_false, n7, n11]; exact ⟨fun _ => hA.one _ (by show _ = (psCs X).toArray; rw [HXC.out]), fun e => (by cases e)⟩))); (try simp only [Act.put, List.setIfInBounds_toArray, List.set_cons_zero, List.set_cons_succ, Nat.reduceAdd]))
          ((with_reducible refine FlowJ.ghost ?_ ?_ ?_); (focus (intro _; rfl)); (focus (intro β L' w' hJ hat K' hK; (try dsimp only at hJ); ((have p4 := hat.pre 4 (by kernel_rfl)); (have p6 := hat.pre 6 (by kernel_rfl)); have p0 := hat.down 4 0 p4 (by decide) (by kernel_rfl); (have n11 := hat.not (j := 11) (by kernel_rfl)); have un := hat.un; simp only [un, p0, p4, p6, n11] at hJ; have hA := hJ.1 trivial; obtain ⟨v', w2, hr, hA2⟩ := hA.run2 (by rw [HIL.out]; omega) 31; refine wp_app_eq (.tmp 39) (.tmp 41) 31 rfl _ _ rfl rfl hr ?_; refine hK.out _ _ ?_; simp only [updG, setL, Nat.reduceEqDiff, if_true, if_false, p0, p4, p6, n11]; exact ⟨fun _ => hA2, fun e => (by cases e)⟩))); (try simp only [Act.put, List.setIfInBounds_toArray, List.set_cons_zero, List.set_cons_succ, Nat.reduceAdd]))
          iterate 2 (((with_reducible refine FlowJ.pure (v := ?_) ?_ ?_ ?_ ?_); rotate_left 1; (focus (intro _; rfl)); (focus (intro β L' w' hJ hat; (try dsimp only at hJ); (try dsimp only); simpa only [setL, Nat.reduceEqDiff, if_false] using hJ)); (focus (intro β L' w' hJ hat; (try dsimp only at hJ); skip; go_simp; (try with_reducible rfl); done)); (try simp only [Act.put, List.setIfInBounds_toArray, List.set_cons_zero, List.set_cons_succ, Nat.reduceAdd])))
          ((with_reducible refine FlowJ.pure (v := .slice (none) (0) (c)) ?_ ?_ ?_ ?_); (focus (intro _; rfl)); (focus (intro β L' w' hJ hat; (try dsimp only at hJ); (try dsimp only); simpa only [setL, Nat.reduceEqDiff, if_false] using hJ)); (focus (intro β L' w' hJ hat; (try dsimp only at hJ); (go_simp; (try with_reducible rfl); done))); (try simp only [Act.put, List.setIfInBounds_toArray, List.set_cons_zero, List.set_cons_succ, Nat.reduceAdd]))
          ((with_reducible refine FlowJ.ghost ?_ ?_ ?_); (focus (intro _; rfl)); (focus (intro β L' w' hJ hat K' hK; (try dsimp only at hJ); ((have p7 := hat.pre 7 (by kernel_rfl)); have p6 := hat.down 7 6 p7 (by decide) (by kernel_rfl); have p4 := hat.down 7 4 p7 (by decide) (by kernel_rfl); have p0 := hat.down 4 0 p4 (by decide) (by kernel_rfl); have un := hat.un; simp only [un, p0, p4, p6, p7] at hJ; have hA := hJ.1 trivial; obtain ⟨v', w2, hr, ho, hg, hnn⟩ := El.app (E := EQ) w' w5.heap.size (β 7) (l.take (0) ++ [X]) (l.drop (0)) (hA.e5 rfl) (none) (c) (HAD.out.later hA.low) (by rw [List.length_append, HIL.out, HDL.out]; simp <;> omega) hA.low.size 31; rw [HDL.out] at hr; refine wp_app_eq (.tmp 42) (.tmp 45) 31 rfl _ _ rfl rfl hr ?_; refine hK.out _ _ ?_; simp only [updG, setL, Nat.reduceEqDiff, if_true, if_false, p0, p4, p6, p7]; exact ⟨fun e => (by cases e), fun _ => ⟨hA.low.grown hg hA.low.size (fun k hk => ((hA.e5 rfl).lt k hk).1), ho⟩⟩))); (try simp only [Act.put, List.setIfInBounds_toArray, List.set_cons_zero, List.set_cons_succ, Nat.reduceAdd]))
          (refine FlowJ.pureG (v := fun β => β 11) (fun β k b hk => updG_ne β b (fun e => by subst e; exact Bool.false_ne_true (hk.symm.trans (by kernel_rfl)))) (fun β b => rfl) (fun _ => rfl) (fun β L' w' hJ hat => by simpa only [setL, Nat.reduceEqDiff, if_false] using hJ) (fun β L' w' hJ hat => by go_simp; (try with_reducible rfl); done) ?_; (try simp only [Act.put, List.setIfInBounds_toArray, List.set_cons_zero, List.set_cons_succ, Nat.reduceAdd]))
          refine FlowJ.stop ?_
          dsimp only
          intro β w6 hJ
          obtain ⟨hb6, ho6⟩ := hJ.2 trivial
          rw [show l.take (0) ++ [X] ++ l.drop (0) = l.take (0) ++ X :: l.drop (0) by simp] at ho6
          obtain ⟨a6, c6, e6, h1, h2, hat6, _⟩ := ho6.at
          have HE6 := Lib.hid e6
          have HB6 := Lib.hid ((HB1.out.trans (HB5.out.mono HB1.out.size)).trans (hb6.mono (Nat.le_trans HB1.out.size HB5.out.size)))
          have HAT6 := Lib.hid hat6
          have HCC := Lib.hid (And.intro h1 h2)
          clear hJ hb6 ho6 e6 hat6 h1 h2
          go_wp2_with fail
          go_ret
          exact ⟨a6, c6, _, by rw [← HE6.out]; rfl, HPO.out, HAT6.out, HCC.out.1, HCC.out.2, HB6.out⟩
      | some ad =>
        by_cases hcl : c = ll
        · subst hcl
          have HAI := Lib.hid (show EQ.At w5 (some ad) (l.take c) from by rw [hti]; exact hL5)
          have HAD := Lib.hid (show EQ.At w5 (some ad) (l.drop c) from by rw [hdi]; exact El.At.nil)
          clear hL5 hti hdi hbr hbw hlt
          go_upto_region 6 with fail
          refine wp_flow_j (fun β L' w' => (L' 11 = false → AaJ EQ w5 (l.take (c)) X (β 0) (β 4) (β 6) (β 7) (L' 0) (L' 4) (L' 6) (L' 7) w') ∧ (L' 11 = true → Below w5.heap.size w5 w' ∧ EQ.Own w' w5.heap.size (β 11) (l.take (c) ++ [X] ++ l.drop (c)))) (by kernel_rfl) (by kernel_rfl) ?h0 ?_
          case h0 => exact ⟨fun _ => AaJ.start, fun e => (by cases e)⟩
          ((with_reducible refine FlowJ.ghost ?_ ?_ ?_); (focus (intro _; rfl)); (focus (intro β L' w' hJ hat K' hK; (try dsimp only at hJ); ((have n4 := hat.not (j := 4) (by kernel_rfl)); (have n7 := hat.not (j := 7) (by kernel_rfl)); (have n11 := hat.not (j := 11) (by kernel_rfl)); have un := hat.un; simp only [un, n4, n7, n11] at hJ; have hA := hJ.1 trivial; go_simp; refine hK.out _ _ ?_; simp only [updG, setL, Nat.reduceEqDiff, if_true, if_false, n4, n7, n11]; exact ⟨fun _ => hA.nil, fun e => (by cases e)⟩))); (try simp only [Act.put, List.setIfInBounds_toArray, List.set_cons_zero, List.set_cons_succ, Nat.reduceAdd]))
          iterate 2 (((with_reducible refine FlowJ.pure (v := ?_) ?_ ?_ ?_ ?_); rotate_left 1; (focus (intro _; rfl)); (focus (intro β L' w' hJ hat; (try dsimp only at hJ); (try dsimp only); simpa only [setL, Nat.reduceEqDiff, if_false] using hJ)); (focus (intro β L' w' hJ hat; (try dsimp only at hJ); skip; go_simp; (try with_reducible rfl); done)); (try simp only [Act.put, List.setIfInBounds_toArray, List.set_cons_zero, List.set_cons_succ, Nat.reduceAdd])))
          ((with_reducible refine FlowJ.pure (v := .slice (some ad) (c) c) ?_ ?_ ?_ ?_); (focus (intro _; rfl)); (focus (intro β L' w' hJ hat; (try dsimp only at hJ); (try dsimp only); simpa only [setL, Nat.reduceEqDiff, if_false] using hJ)); (focus (intro β L' w' hJ hat; (try dsimp only at hJ); (go_simp; (try with_reducible rfl); done))); (try simp only [Act.put, List.setIfInBounds_toArray, List.set_cons_zero, List.set_cons_succ, Nat.reduceAdd]))
          ((with_reducible refine FlowJ.ghost ?_ ?_ ?_); (focus (intro _; rfl)); (focus (intro β L' w' hJ hat K' hK; (try dsimp only at hJ); ((have p0 := hat.pre 0 (by kernel_rfl)); (have n7 := hat.not (j := 7) (by kernel_rfl)); (have n11 := hat.not (j := 11) (by kernel_rfl)); have un := hat.un; simp only [un, p0, n7, n11] at hJ; have hA := hJ.1 trivial; obtain ⟨v', w2, hr, hA2⟩ := hA.run1 (some ad) c (HAI.out.later hA.low) (by rw [HIL.out]; omega) 31; rw [HIL.out] at hr; refine wp_app_eq (.tmp 35) (.tmp 38) 31 rfl _ _ rfl rfl hr ?_; refine hK.out _ _ ?_; simp only [updG, setL, Nat.reduceEqDiff, if_true, if_false, p0, n7, n11]; exact ⟨fun _ => hA2, fun e => (by cases e)⟩))); (try simp only [Act.put, List.setIfInBounds_toArray, List.set_cons_zero, List.set_cons_succ, Nat.reduceAdd]))
          ((with_reducible refine FlowJ.pure (v := ?_) ?_ ?_ ?_ ?_); rotate_left 1; (focus (intro _; rfl)); (focus (intro β L' w' hJ hat; (try dsimp only at hJ); (try dsimp only); simpa only [setL, Nat.reduceEqDiff, if_false] using hJ)); (focus (intro β L' w' hJ hat; (try dsimp only at hJ); ((have n11 := hat.not (j := 11) (by kernel_rfl)); have hA := hJ.1 n11; obtain ⟨g0, g1, g2, g3, g4, g5⟩ := HX5.out w' hA.low); go_simp; (try with_reducible rfl); done)); (try simp only [Act.put, List.setIfInBounds_toArray, List.set_cons_zero, List.set_cons_succ, Nat.reduceAdd]))
          ((with_reducible refine FlowJ.ghost ?_ ?_ ?_); (focus (intro _; rfl)); (focus (intro β L' w' hJ hat K' hK; (try dsimp only at hJ); ((have n7 := hat.not (j := 7) (by kernel_rfl)); (have n11 := hat.not (j := 11) (by kernel_rfl)); have un := hat.un; simp only [un, n7, n11] at hJ; have hA := hJ.1 trivial; go_simp; refine hK.out _ _ ?_; simp only [updG, setL, Nat.reduceEqDiff, if_true, if_false, n7, n11]; exact ⟨fun _ => hA.one _ (by show _ = (psCs X).toArray; rw [HXC.out]), fun e => (by cases e)⟩))); (try simp only [Act.put, List.setIfInBounds_toArray, List.set_cons_zero, List.set_cons_succ, Nat.reduceAdd]))
          ((with_reducible refine FlowJ.ghost ?_ ?_ ?_); (focus (intro _; rfl)); (focus (intro β L' w' hJ hat K' hK; (try dsimp only at hJ); ((have p4 := hat.pre 4 (by kernel_rfl)); (have p6 := hat.pre 6 (by kernel_rfl)); have p0 := hat.down 4 0 p4 (by decide) (by kernel_rfl); (have n11 := hat.not (j := 11) (by kernel_rfl)); have un := hat.un; simp only [un, p0, p4, p6, n11] at hJ; have hA := hJ.1 trivial; obtain ⟨v', w2, hr, hA2⟩ := hA.run2 (by rw [HIL.out]; omega) 31; refine wp_app_eq (.tmp 39) (.tmp 41) 31 rfl _ _ rfl rfl hr ?_; refine hK.out _ _ ?_; simp only [updG, setL, Nat.reduceEqDiff, if_true, if_false, p0, p4, p6, n11]; exact ⟨fun _ => hA2, fun e => (by cases e)⟩))); (try simp only [Act.put, List.setIfInBounds_toArray, List.set_cons_zero, List.set_cons_succ, Nat.reduceAdd]))
          iterate 2 (((with_reducible refine FlowJ.pure (v := ?_) ?_ ?_ ?_ ?_); rotate_left 1; (focus (intro _; rfl)); (focus (intro β L' w' hJ hat; (try dsimp only at hJ); (try dsimp only); simpa only [setL, Nat.reduceEqDiff, if_false] using hJ)); (focus (intro β L' w' hJ hat; (try dsimp only at hJ); skip; go_simp; (try with_reducible rfl); done)); (try simp only [Act.put, List.setIfInBounds_toArray, List.set_cons_zero, List.set_cons_succ, Nat.reduceAdd])))
          ((with_reducible refine FlowJ.pure (v := .slice (some ad) (0) (0)) ?_ ?_ ?_ ?_); (focus (intro _; rfl)); (focus (intro β L' w' hJ hat; (try dsimp only at hJ); (try dsimp only); simpa only [setL, Nat.reduceEqDiff, if_false] using hJ)); (focus (intro β L' w' hJ hat; (try dsimp only at hJ); (go_simp; (try with_reducible rfl); done))); (try simp only [Act.put, List.setIfInBounds_toArray, List.set_cons_zero, List.set_cons_succ, Nat.reduceAdd]))
          ((with_reducible refine FlowJ.ghost ?_ ?_ ?_); (focus (intro _; rfl)); (focus (intro β L' w' hJ hat K' hK; (try dsimp only at hJ); ((have p7 := hat.pre 7 (by kernel_rfl)); have p6 := hat.down 7 6 p7 (by decide) (by kernel_rfl); have p4 := hat.down 7 4 p7 (by decide) (by kernel_rfl); have p0 := hat.down 4 0 p4 (by decide) (by kernel_rfl); have un := hat.un; simp only [un, p0, p4, p6, p7] at hJ; have hA := hJ.1 trivial; obtain ⟨v', w2, hr, ho, hg, hnn⟩ := El.app (E := EQ) w' w5.heap.size (β 7) (l.take (c) ++ [X]) (l.drop (c)) (hA.e5 rfl) (some ad) (0) (HAD.out.later hA.low) (by rw [List.length_append, HIL.out, HDL.out]; simp <;> omega) hA.low.size 31; rw [HDL.out] at hr; refine wp_app_eq (.tmp 42) (.tmp 45) 31 rfl _ _ rfl rfl hr ?_; refine hK.out _ _ ?_; simp only [updG, setL, Nat.reduceEqDiff, if_true, if_false, p0, p4, p6, p7]; exact ⟨fun e => (by cases e), fun _ => ⟨hA.low.grown hg hA.low.size (fun k hk => ((hA.e5 rfl).lt k hk).1), ho⟩⟩))); (try simp only [Act.put, List.setIfInBounds_toArray, List.set_cons_zero, List.set_cons_succ, Nat.reduceAdd]))
          (refine FlowJ.pureG (v := fun β => β 11) (fun β k b hk => updG_ne β b (fun e => by subst e; exact Bool.false_ne_true (hk.symm.trans (by kernel_rfl)))) (fun β b => rfl) (fun _ => rfl) (fun β L' w' hJ hat => by simpa only [setL, Nat.reduceEqDiff, if_false] using hJ) (fun β L' w' hJ hat => by go_simp; (try with_reducible rfl); done) ?_; (try simp only [Act.put, List.setIfInBounds_toArray, List.set_cons_zero, List.set_cons_succ, Nat.reduceAdd]))
          refine FlowJ.stop ?_
          dsimp only
          intro β w6 hJ
          obtain ⟨hb6, ho6⟩ := hJ.2 trivial
          rw [show l.take (c) ++ [X] ++ l.drop (c) = l.take (c) ++ X :: l.drop (c) by simp] at ho6
          obtain ⟨a6, c6, e6, h1, h2, hat6, _⟩ := ho6.at
          have HE6 := Lib.hid e6
          have HB6 := Lib.hid ((HB1.out.trans (HB5.out.mono HB1.out.size)).trans (hb6.mono (Nat.le_trans HB1.out.size HB5.out.size)))
          have HAT6 := Lib.hid hat6
          have HCC := Lib.hid (And.intro h1 h2)
          clear hJ hb6 ho6 e6 hat6 h1 h2
          go_wp2_with fail
          go_ret
          exact ⟨a6, c6, _, by rw [← HE6.out]; rfl, HPO.out, HAT6.out, HCC.out.1, HCC.out.2, HB6.out⟩
        · have HAI := Lib.hid (show EQ.At w5 (some ad) (l.take ll) from by rw [hti]; exact hL5)
          have HAD := Lib.hid (show EQ.At w5 (some (ad.add (ll * 6))) (l.drop ll) from by rw [hdi]; exact El.At.nil)
          clear hL5 hti hdi hbr hbw hlt
          go_upto_region 6 with fail
          refine wp_flow_j (fun β L' w' => (L' 11 = false → AaJ EQ w5 (l.take (ll)) X (β 0) (β 4) (β 6) (β 7) (L' 0) (L' 4) (L' 6) (L' 7) w') ∧ (L' 11 = true → Below w5.heap.size w5 w' ∧ EQ.Own w' w5.heap.size (β 11) (l.take (ll) ++ [X] ++ l.drop (ll)))) (by kernel_rfl) (by kernel_rfl) ?h0 ?_
          case h0 => exact ⟨fun _ => AaJ.start, fun e => (by cases e)⟩
          ((with_reducible refine FlowJ.ghost ?_ ?_ ?_); (focus (intro _; rfl)); (focus (intro β L' w' hJ hat K' hK; (try dsimp only at hJ); ((have n4 := hat.not (j := 4) (by kernel_rfl)); (have n7 := hat.not (j := 7) (by kernel_rfl)); (have n11 := hat.not (j := 11) (by kernel_rfl)); have un := hat.un; simp only [un, n4, n7, n11] at hJ; have hA := hJ.1 trivial; go_simp; refine hK.out _ _ ?_; simp only [updG, setL, Nat.reduceEqDiff, if_true, if_false, n4, n7, n11]; exact ⟨fun _ => hA.nil, fun e => (by cases e)⟩))); (try simp only [Act.put, List.setIfInBounds_toArray, List.set_cons_zero, List.set_cons_succ, Nat.reduceAdd]))
          iterate 2 (((with_reducible refine FlowJ.pure (v := ?_) ?_ ?_ ?_ ?_); rotate_left 1; (focus (intro _; rfl)); (focus (intro β L' w' hJ hat; (try dsimp only at hJ); (try dsimp only); simpa only [setL, Nat.reduceEqDiff, if_false] using hJ)); (focus (intro β L' w' hJ hat; (try dsimp only at hJ); skip; go_simp; (try with_reducible rfl); done)); (try simp only [Act.put, List.setIfInBounds_toArray, List.set_cons_zero, List.set_cons_succ, Nat.reduceAdd])))
          ((with_reducible refine FlowJ.pure (v := .slice (some ad) (ll) c) ?_ ?_ ?_ ?_); (focus (intro _; rfl)); (focus (intro β L' w' hJ hat; (try dsimp only at hJ); (try dsimp only); simpa only [setL, Nat.reduceEqDiff, if_false] using hJ)); (focus (intro β L' w' hJ hat; (try dsimp only at hJ); (go_simp; (try with_reducible rfl); done))); (try simp only [Act.put, List.setIfInBounds_toArray, List.set_cons_zero, List.set_cons_succ, Nat.reduceAdd]))
          ((with_reducible refine FlowJ.ghost ?_ ?_ ?_); (focus (intro _; rfl)); (focus (intro β L' w' hJ hat K' hK; (try dsimp only at hJ); ((have p0 := hat.pre 0 (by kernel_rfl)); (have n7 := hat.not (j := 7) (by kernel_rfl)); (have n11 := hat.not (j := 11) (by kernel_rfl)); have un := hat.un; simp only [un, p0, n7, n11] at hJ; have hA := hJ.1 trivial; obtain ⟨v', w2, hr, hA2⟩ := hA.run1 (some ad) c (HAI.out.later hA.low) (by rw [HIL.out]; omega) 31; rw [HIL.out] at hr; refine wp_app_eq (.tmp 35) (.tmp 38) 31 rfl _ _ rfl rfl hr ?_; refine hK.out _ _ ?_; simp only [updG, setL, Nat.reduceEqDiff, if_true, if_false, p0, n7, n11]; exact ⟨fun _ => hA2, fun e => (by cases e)⟩))); (try simp only [Act.put, List.setIfInBounds_toArray, List.set_cons_zero, List.set_cons_succ, Nat.reduceAdd]))
          ((with_reducible refine FlowJ.pure (v := ?_) ?_ ?_ ?_ ?_); rotate_left 1; (focus (intro _; rfl)); (focus (intro β L' w' hJ hat; (try dsimp only at hJ); (try dsimp only); simpa only [setL, Nat.reduceEqDiff, if_false] using hJ)); (focus (intro β L' w' hJ hat; (try dsimp only at hJ); ((have n11 := hat.not (j := 11) (by kernel_rfl)); have hA := hJ.1 n11; obtain ⟨g0, g1, g2, g3, g4, g5⟩ := HX5.out w' hA.low); go_simp; (try with_reducible rfl); done)); (try simp only [Act.put, List.setIfInBounds_toArray, List.set_cons_zero, List.set_cons_succ, Nat.reduceAdd]))
          ((with_reducible refine FlowJ.ghost ?_ ?_ ?_); (focus (intro _; rfl)); (focus (intro β L' w' hJ hat K' hK; (try dsimp only at hJ); ((have n7 := hat.not (j := 7) (by kernel_rfl)); (have n11 := hat.not (j := 11) (by kernel_rfl)); have un := hat.un; simp only [un, n7, n11] at hJ; have hA := hJ.1 trivial; go_simp; refine hK.out _ _ ?_; simp only [updG, setL, Nat.reduceEqDiff, if_true, if_false, n7, n11]; exact ⟨fun _ => hA.one _ (by show _ = (psCs X).toArray; rw [HXC.out]), fun e => (by cases e)⟩))); (try simp only [Act.put, List.setIfInBounds_toArray, List.set_cons_zero, List.set_cons_succ, Nat.reduceAdd]))
          ((with_reducible refine FlowJ.ghost ?_ ?_ ?_); (focus (intro _; rfl)); (focus (intro β L' w' hJ hat K' hK; (try dsimp only at hJ); ((have p4 := hat.pre 4 (by kernel_rfl)); (have p6 := hat.pre 6 (by kernel_rfl)); have p0 := hat.down 4 0 p4 (by decide) (by kernel_rfl); (have n11 := hat.not (j := 11) (by kernel_rfl)); have un := hat.un; simp only [un, p0, p4, p6, n11] at hJ; have hA := hJ.1 trivial; obtain ⟨v', w2, hr, hA2⟩ := hA.run2 (by rw [HIL.out]; omega) 31; refine wp_app_eq (.tmp 39) (.tmp 41) 31 rfl _ _ rfl rfl hr ?_; refine hK.out _ _ ?_; simp only [updG, setL, Nat.reduceEqDiff, if_true, if_false, p0, p4, p6, n11]; exact ⟨fun _ => hA2, fun e => (by cases e)⟩))); (try simp only [Act.put, List.setIfInBounds_toArray, List.set_cons_zero, List.set_cons_succ, Nat.reduceAdd]))
          iterate 2 (((with_reducible refine FlowJ.pure (v := ?_) ?_ ?_ ?_ ?_); rotate_left 1; (focus (intro _; rfl)); (focus (intro β L' w' hJ hat; (try dsimp only at hJ); (try dsimp only); simpa only [setL, Nat.reduceEqDiff, if_false] using hJ)); (focus (intro β L' w' hJ hat; (try dsimp only at hJ); skip; go_simp; (try with_reducible rfl); done)); (try simp only [Act.put, List.setIfInBounds_toArray, List.set_cons_zero, List.set_cons_succ, Nat.reduceAdd])))
          ((with_reducible refine FlowJ.pure (v := .slice (some (ad.add (ll * 6))) (0) (c - ll)) ?_ ?_ ?_ ?_); (focus (intro _; rfl)); (focus (intro β L' w' hJ hat; (try dsimp only at hJ); (try dsimp only); simpa only [setL, Nat.reduceEqDiff, if_false] using hJ)); (focus (intro β L' w' hJ hat; (try dsimp only at hJ); (go_simp; (try with_reducible rfl); done))); (try simp only [Act.put, List.setIfInBounds_toArray, List.set_cons_zero, List.set_cons_succ, Nat.reduceAdd]))
          ((with_reducible refine FlowJ.ghost ?_ ?_ ?_); (focus (intro _; rfl)); (focus (intro β L' w' hJ hat K' hK; (try dsimp only at hJ); ((have p7 := hat.pre 7 (by kernel_rfl)); have p6 := hat.down 7 6 p7 (by decide) (by kernel_rfl); have p4 := hat.down 7 4 p7 (by decide) (by kernel_rfl); have p0 := hat.down 4 0 p4 (by decide) (by kernel_rfl); have un := hat.un; simp only [un, p0, p4, p6, p7] at hJ; have hA := hJ.1 trivial; obtain ⟨v', w2, hr, ho, hg, hnn⟩ := El.app (E := EQ) w' w5.heap.size (β 7) (l.take (ll) ++ [X]) (l.drop (ll)) (hA.e5 rfl) (some (ad.add (ll * 6))) (c - ll) (HAD.out.later hA.low) (by rw [List.length_append, HIL.out, HDL.out]; simp <;> omega) hA.low.size 31; rw [HDL.out] at hr; refine wp_app_eq (.tmp 42) (.tmp 45) 31 rfl _ _ rfl rfl hr ?_; refine hK.out _ _ ?_; simp only [updG, setL, Nat.reduceEqDiff, if_true, if_false, p0, p4, p6, p7]; exact ⟨fun e => (by cases e), fun _ => ⟨hA.low.grown hg hA.low.size (fun k hk => ((hA.e5 rfl).lt k hk).1), ho⟩⟩))); (try simp only [Act.put, List.setIfInBounds_toArray, List.set_cons_zero, List.set_cons_succ, Nat.reduceAdd]))
          (refine FlowJ.pureG (v := fun β => β 11) (fun β k b hk => updG_ne β b (fun e => by subst e; exact Bool.false_ne_true (hk.symm.trans (by kernel_rfl)))) (fun β b => rfl) (fun _ => rfl) (fun β L' w' hJ hat => by simpa only [setL, Nat.reduceEqDiff, if_false] using hJ) (fun β L' w' hJ hat => by go_simp; (try with_reducible rfl); done) ?_; (try simp only [Act.put, List.setIfInBounds_toArray, List.set_cons_zero, List.set_cons_succ, Nat.reduceAdd]))
          refine FlowJ.stop ?_
          dsimp only
          intro β w6 hJ
          obtain ⟨hb6, ho6⟩ := hJ.2 trivial
          rw [show l.take (ll) ++ [X] ++ l.drop (ll) = l.take (ll) ++ X :: l.drop (ll) by simp] at ho6
          obtain ⟨a6, c6, e6, h1, h2, hat6, _⟩ := ho6.at
          have HE6 := Lib.hid e6
          have HB6 := Lib.hid ((HB1.out.trans (HB5.out.mono HB1.out.size)).trans (hb6.mono (Nat.le_trans HB1.out.size HB5.out.size)))
          have HAT6 := Lib.hid hat6
          have HCC := Lib.hid (And.intro h1 h2)
          clear hJ hb6 ho6 e6 hat6 h1 h2
          go_wp2_with fail
          go_ret
          exact ⟨a6, c6, _, by rw [← HE6.out]; rfl, HPO.out, HAT6.out, HCC.out.1, HCC.out.2, HB6.out⟩
end
section
open Go.RowKit Go.Maps Go.Sort

/-! ### plain -/
theorem cmpP_trans {x y z : Pos} (h1 : cmpP x y < 0) (h2 : cmpP y z < 0) : cmpP x z < 0 := by
  have h := cmpP_tw.tr x y z (by omega) (by omega)
  have h0 : cmpP x z ≠ 0 := fun e => by
    have := cmpP_tw.strict (x := x) (y := y) (z := z) (by omega) (by omega) e
    omega
  omega
/-- an ordered list of the positions of states -/
structure Ord (g : Gm) (D : List St) (l : List PA) : Prop where
  p : (l.map (·.1)).Perm (D.map (posS g))
  s : (l.map (·.1)).Pairwise (fun x y => cmpP x y < 0)
theorem Ord.len {g : Gm} {D : List St} {l : List PA} (h : Ord g D l) : l.length = D.length := by
  have := h.p.length_eq
  simpa using this
theorem Ord.nil (g : Gm) : Ord g [] [] := ⟨by simp, by simp⟩
theorem Ord.put {g : Gm} {D : List St} {l l' : List PA} {x : PA} {s : St} (h : Ord g D l) (hx : x.1 = posS g s) (hp : PutOf l x l') : (s ∈ D ∧ l' = l) ∨ (s ∉ D ∧ Ord g (D ++ [s]) l' ∧ l'.length = l.length + 1 ∧ ∀ z ∈ l', z = x ∨ z ∈ l) := by
  have hgt : ∀ i j (hi : i < l.length) (hj : j < l.length), i < j → cmpP l[i].1 l[j].1 < 0 := fun i j hi hj hij => by
    have := List.pairwise_iff_getElem.1 h.s i j (by simpa using hi) (by simpa using hj) hij
    simpa using this
  rcases hp with ⟨i, hi, h0, rfl⟩ | ⟨i, hi, hlt, hgt2, rfl⟩
  · left
    refine ⟨?_, rfl⟩
    have hm : l'[i].1 ∈ D.map (posS g) := h.p.mem_iff.1 (List.mem_map.2 ⟨_, List.getElem_mem hi, rfl⟩)
    obtain ⟨s', hs', e⟩ := List.mem_map.1 hm
    have e2 := cmpP_zero h0
    rw [← e, hx, posS_st, posS_st] at e2
    rwa [← e2]
  · right
    have hns : s ∉ D := fun hs => by
      have hm : posS g s ∈ l.map (·.1) := h.p.mem_iff.2 (List.mem_map.2 ⟨s, hs, rfl⟩)
      obtain ⟨y, hy, e⟩ := List.mem_map.1 hm
      obtain ⟨k, hk, rfl⟩ := List.mem_iff_getElem.1 hy
      have e1 : l[k].1 = x.1 := e.trans hx.symm
      have e0 : cmpP l[k].1 x.1 = 0 := cmpP_of (by rw [e1])
      rcases Nat.lt_trichotomy k i with h1 | h1 | h1
      · have := hlt k hk h1; omega
      · subst h1
        have := hgt2 hk; omega
      · have h2 := hgt i k (by omega) hk h1
        rw [e1] at h2
        have := hgt2 (by omega)
        omega
    refine ⟨hns, ⟨?_, ?_⟩, ?_, fun z hz => ?_⟩
    · have h1 : (l.take i ++ x :: l.drop i).Perm (x :: l) := by
        have h2 : (l.take i ++ x :: l.drop i).Perm (x :: (l.take i ++ l.drop i)) := List.perm_middle
        rwa [List.take_append_drop] at h2
      have h3 := h1.map (·.1)
      rw [List.map_cons, hx] at h3
      refine h3.trans ?_
      rw [List.map_append, List.map_singleton]
      exact (h.p.cons (posS g s)).trans (List.perm_append_singleton _ _).symm
    · rw [List.map_append, List.map_cons, List.pairwise_append]
      refine ⟨?_, ?_, ?_⟩
      · rw [List.map_take]
        exact h.s.sublist (List.take_sublist _ _)
      · rw [List.pairwise_cons]
        refine ⟨fun b hb => ?_, ?_⟩
        · obtain ⟨y, hy, rfl⟩ := List.mem_map.1 hb
          obtain ⟨k, hk, rfl⟩ := List.mem_iff_getElem.1 hy
          rw [List.length_drop] at hk
          rw [List.getElem_drop]
          have hil : i < l.length := by omega
          have h1 : cmpP x.1 l[i].1 < 0 := by have := hgt2 hil; have := cmpP_tw.anti l[i].1 x.1; omega
          rcases Nat.eq_zero_or_pos k with hk0 | hk0
          · subst hk0
            exact h1
          · exact cmpP_trans h1 (hgt i (i + k) hil (by omega) (by omega))
        · rw [List.map_drop]
          exact h.s.sublist (List.drop_sublist _ _)
      · intro a ha b hb
        obtain ⟨y, hy, rfl⟩ := List.mem_map.1 ha
        obtain ⟨k, hk, rfl⟩ := List.mem_iff_getElem.1 hy
        rw [List.length_take] at hk
        rw [List.getElem_take]
        rcases List.mem_cons.1 hb with rfl | hb
        · exact hlt k (by omega) (by omega)
        · obtain ⟨z, hz, rfl⟩ := List.mem_map.1 hb
          obtain ⟨m, hm, rfl⟩ := List.mem_iff_getElem.1 hz
          rw [List.length_drop] at hm
          rw [List.getElem_drop]
          exact hgt k (i + m) (by omega) (by omega) (by omega)
    · rw [List.length_append, List.length_cons, List.length_take, List.length_drop]
      omega
    · rcases List.mem_append.1 hz with hz | hz
      · exact .inr (List.mem_of_mem_take hz)
      · rcases List.mem_cons.1 hz with hz | hz
        · exact .inl hz
        · exact .inr (List.mem_of_mem_drop hz)
/-! ### the walk -/
def RetFo (g : Gm) (D : List St) (w : World) (e : Ending) (w' : World) : Prop := ∃ a c l, e = .returned (.slice a l.length c) ∧ Ord g D l ∧ LiI g.starts.length g.starts.length w' a l ∧ l.length ≤ c ∧ c ≤ maxLen ∧ Below w.heap.size w w'
def RFolC (g : Gm) (sa : Option Addr) (sc : Nat) (da : Option Addr) (dc k : Nat) : Prop := ∀ (p : Pos) (psa pfa : Option Addr) (psc pfc : Nat) (l : List PA) (D : List St) (a : Option Addr) (c : Nat) (w : World), GmAt w g sa da → PsAt w p psa pfa → Dom g p.st → p.turn + k = g.deps.length → Ord g D l → LiI g.starts.length g.starts.length w a l → l.length ≤ c → c ≤ maxLen → l.length + NF k ≤ 1000000 →
  Calls Try.prog 45 #[gmV g sa sc da dc, psV p psa psc pfa pfc, .slice a l.length c] w (RetFo g (followL g k p.st D) w)
set_option maxRecDepth 100000 in
set_option maxHeartbeats 4000000 in
theorem rfol_end (g : Gm) (sa da : Option Addr) (sc dc : Nat) : RFolC g sa sc da dc 0 := by
  intro p psa pfa psc pfc l D a c w hG hP hD ht hO hL h1 h2 h3
  have HR := Lib.hid (show ∀ w', Below w.heap.size w w' → RetFo g (followL g 0 p.st D) w (.returned (.slice a l.length c)) w' from fun w' hb => ⟨a, c, l, rfl, hO, hL.later hb, h1, h2, hb⟩)
  obtain ⟨ll, hll⟩ : ∃ n, n = l.length := ⟨_, rfl⟩
  obtain ⟨nd, hnd⟩ : ∃ n, n = g.deps.length := ⟨_, rfl⟩
  obtain ⟨tn, htn⟩ : ∃ t, t = p.turn := ⟨_, rfl⟩
  rw [← hll] at HR ⊢
  unfold gmV psV
  rw [← hnd, ← htn]
  rw [← hnd, ← htn] at ht
  have t1 : decide ((nd : Int) ≤ tn) = true := decide_eq_true (by omega)
  have t2 : (nd : Int) ≤ tn := by omega
  clear hG hP hD ht hO hL h1 h2 h3 hnd htn hll
  go_enter Try.func45, Try.ntmps45
  go_wp2_with fail
  go_ret
  exact HR.out _ (by repeat (first | exact Below.refl _ _ | assumption | refine Below.drew ?_ | refine below_drewN ?_ _ | refine Below.alloc ?_ (by first | omega | (simp; done) | (simp; omega)) _ | refine Below.setCell ?_ (by first | omega | (simp; done) | (simp; omega)) _ | refine Below.trans ?_ (Below.mono (by assumption) (by first | omega | (simp; done) | (simp; omega)))))
set_option maxRecDepth 100000 in
set_option maxHeartbeats 8000000 in
theorem rfol_on (g : Gm) (sa da : Option Addr) (sc dc k : Nat) (hv : VG g) (hF : RFolC g sa sc da dc k) : RFolC g sa sc da dc (k + 1) := by
  intro p psa pfa psc pfc l D a c w hG hP hD ht hO hL h1 h2 h3
  have ht0 : 0 ≤ p.turn := hD.t0
  have hls : p.starts.length = g.starts.length := hD.ls
  have hlf : p.failed.length = g.starts.length := hD.lf
  have hfl : followL g (k + 1) p.st D = (madeL p.st).foldl (folStep g k) D := followL_succ g k p.st D
  have hNF : NF (k + 1) = 7 * (1 + NF k) := rfl
  have hMV := fun wy (hy : Below w.heap.size w wy) => rmoves_any p psa pfa psc pfc wy (hP.later hy) (by have := hv.1; omega) (by have h1 : p.budget ≤ g.budget := hD.b0; have := hv.2.2.2.1; omega)
  have hml := madeL_len hv hD
  have hyt : ∀ y : PA, y.1.st ∈ madeL p.st → y.1.turn = p.turn := fun y hy => made_turn hy
  have hlen : ∀ y : PA, y.1.st ∈ madeL p.st → y.1.starts.length = g.starts.length ∧ y.1.failed.length = g.starts.length := fun y hy => ⟨(hD.made hy).ls, (hD.made hy).lf⟩
  have hBE := fun (y : PA) (hy' : y.1.st ∈ madeL p.st) wy (hy : Below w.heap.size w wy) (hp : PsAt wy y.1 y.2.1 y.2.2.2.1) => (rwb_all g sa da sc dc hv k).2 y.1 y.2.1 y.2.2.2.1 y.2.2.1 y.2.2.2.2 wy (hG.later hy) hp (hD.made hy') (by rw [hyt y hy']; exact ht)
  have hPU := fun (l : List PA) a c (x : PA) wy (h : LiI g.starts.length g.starts.length wy a l) (hc : l.length ≤ c ∧ c ≤ maxLen) (hl : l.length ≤ 1000000) (hp : PsAt wy x.1 x.2.1 x.2.2.2.1) (e1 : x.1.starts.length = g.starts.length) (e2 : x.1.failed.length = g.starts.length) => put_any g.starts.length l a c x wy h hc hl hp e1 e2 (by have := hv.1; omega)
  have hdn : ∀ y : PA, y.1.st ∈ madeL p.st → Dom g (afterS y.1.st (BG g y.1.st).1) := fun y hy => (hD.made hy).next (by have := hyt y hy; show y.1.turn < _; omega)
  have hcc : ∀ y : PA, y.1.st ∈ madeL p.st → ((BG g y.1.st).1 = -1 ∨ ∃ k : Nat, (BG g y.1.st).1 = k ∧ k < y.1.starts.length ∧ 0 ≤ ig y.1.starts k ∧ ig y.1.starts k ≤ 1000) := fun y hy => by
    rcases BG_can g y.1.st with h | ⟨h1, h2, h3⟩
    · exact .inl h
    · have e := hyt y hy
      have hdm := hD.made hy
      have h4 := okDep_domG (hv.2.2.2.2.2 y.1.st.turn.toNat (by show y.1.turn.toNat < _; omega)) h1
      have h5 := hdm.st (BG g y.1.st).1.toNat (by rw [show y.1.st.starts.length = g.starts.length from (hlen y hy).1]; omega)
      have h6 := hv.2.2.2.2.1 (BG g y.1.st).1.toNat (by omega)
      have h7 : ig y.1.starts (BG g y.1.st).1.toNat ≤ ig g.starts (BG g y.1.st).1.toNat := h5.2
      have h8 : 0 ≤ ig y.1.starts (BG g y.1.st).1.toNat := h5.1
      exact .inr ⟨(BG g y.1.st).1.toNat, by omega, by rw [(hlen y hy).1]; omega, h8, by omega⟩
  have hNX := fun (q : Pos) (qsa qfa : Option Addr) (qsc qfc : Nat) (C : Int) wy (hp : PsAt wy q qsa qfa) (e1 : q.starts.length = g.starts.length) (e2 : q.turn = p.turn) (hc : C = -1 ∨ ∃ k : Nat, C = k ∧ k < q.starts.length ∧ 0 ≤ ig q.starts k ∧ ig q.starts k ≤ 1000) => rnext_any q C qsa qfa qsc qfc wy hp (by have := hv.1; omega) (by have := hv.2.1; omega) hc
  have hFO := fun (q : Pos) (qsa qfa : Option Addr) (qsc qfc : Nat) (l : List PA) (D : List St) a c wy (hy : Below w.heap.size w wy) (hp : PsAt wy q qsa qfa) (hd : Dom g q.st) (e : q.turn = p.turn + 1) (ho : Ord g D l) (hl : LiI g.starts.length g.starts.length wy a l) (hc1 : l.length ≤ c) (hc2 : c ≤ maxLen) (hb : l.length + NF k ≤ 1000000) => hF q qsa qfa qsc qfc l D a c wy (hG.later hy) hp hd (by omega) ho hl hc1 hc2 hb
  have hfb := fun (j : Nat) => fold_len hv hD (k := k) (by show p.turn + ((k : Int) + 1) ≤ (g.deps.length : Int); omega) ((madeL p.st).take j) D (fun x hx => List.mem_of_mem_take hx)
  have hDl := hO.len
  obtain ⟨n, hn⟩ : ∃ n, n = g.starts.length := ⟨_, rfl⟩
  obtain ⟨nd, hnd⟩ : ∃ n, n = g.deps.length := ⟨_, rfl⟩
  obtain ⟨bu, hbu⟩ : ∃ n, n = g.budget := ⟨_, rfl⟩
  obtain ⟨tn, htn⟩ : ∃ n, n = p.turn := ⟨_, rfl⟩
  obtain ⟨pb, hpb⟩ : ∃ n, n = p.budget := ⟨_, rfl⟩
  obtain ⟨pc, hpc⟩ : ∃ n, n = p.choice := ⟨_, rfl⟩
  obtain ⟨pd, hpd⟩ : ∃ n, n = p.bound := ⟨_, rfl⟩
  obtain ⟨F, hFF⟩ : ∃ F, F = followL g (k + 1) p.st D := ⟨_, rfl⟩
  rw [← hn] at hls hlf
  rw [← hFF] at hfl ⊢
  simp only [← hn] at hlen hL hPU
  have t1 : decide ((nd : Int) ≤ tn) = false := decide_eq_false (by omega)
  have t2 : ¬ (nd : Int) ≤ tn := by omega
  have HN := Lib.hid hn
  have HFL := Lib.hid hfl
  have HML := Lib.hid hml
  have HYT := Lib.hid hyt
  have HLEN := Lib.hid hlen
  have HPU := Lib.hid hPU
  have HDN := Lib.hid hdn
  have HCC := Lib.hid hcc
  have HNX := Lib.hid hNX
  have HFO := Lib.hid hFO
  have HFB := Lib.hid hfb
  have HNF := Lib.hid (show l.length + 7 * (1 + NF k) ≤ 1000000 from h3)
  have HDL := Lib.hid hDl
  have HO := Lib.hid hO
  have HL := Lib.hid hL
  have HCAP := Lib.hid (And.intro h1 h2)
  have HPL := Lib.hid (And.intro hls hlf)
  have HTN := Lib.hid htn
  simp only [psV, gmV, hls, hlf, ← hn, ← hnd, ← hbu, ← htn, ← hpb, ← hpc, ← hpd] at hMV hBE ⊢
  have HMV := Lib.hid hMV
  have HBE := Lib.hid hBE
  have HGB := Lib.hid (show nd = g.deps.length ∧ bu = g.budget from ⟨hnd, hbu⟩)
  obtain ⟨l0, hl0⟩ : ∃ n, n = l.length := ⟨_, rfl⟩
  rw [← hl0]
  have HL0 := Lib.hid hl0
  clear hG hP hD ht ht0 hO hL h1 h2 h3 hls hlf hfl hNF hMV hml hyt hlen hBE hPU hdn hcc hNX hFO hfb hDl hn hnd hbu htn hpb hpc hpd hFF hF hl0 hv
  go_enter Try.func45, Try.ntmps45
  go_upto_region 1 with fail
  refine wp_named ?_
  intro w1 hw1
  obtain ⟨hb1, hs1, ⟨hg, _⟩, hp, _⟩ := alloc2t w [.slice sa n sc, .slice da nd dc, .int .i64 bu] [.int .i64 tn, .slice psa n psc, .slice pfa n pfc, .int .i64 pb, .int .i64 pc, .int .i64 pd] _ _ w1 hw1
  have HB1 := Lib.hid hb1
  have HGX := Lib.hid hg
  have c1 := (hg 1 _ rfl).1
  have p0 := (hp 0 _ rfl).1
  have p1 := (hp 1 _ rfl).1
  have p2 := (hp 2 _ rfl).1
  have p3 := (hp 3 _ rfl).1
  have p4 := (hp 4 _ rfl).1
  have p5 := (hp 5 _ rfl).1
  clear hw1 hb1 hs1 hg hp
  go_wp2_with fail
  refine Calls.mono (HMV.out w1 HB1.out) ?_
  rintro e w2 ⟨am, cm, ml, rfl, hmap, hat, hps, hb2⟩
  obtain ⟨mn, hmn⟩ : ∃ x, x = ml.length := ⟨_, rfl⟩
  have hmn2 : mn ≤ 7 := by
    have h := congrArg List.length hmap
    rw [List.length_map] at h
    have := HML.out
    omega
  rw [← hmn]
  have HMAP := Lib.hid hmap
  have HAT := Lib.hid hat
  have HPS := Lib.hid hps
  have HB12 := Lib.hid hb2
  have HMN := Lib.hid hmn
  have HBW2 := Lib.hid (HB1.out.trans (hb2.mono HB1.out.size))
  clear hmap hat hps hmn hb2 c1 p0 p1 p2 p3 p4 p5
  go_wp2_with fail
  go_loopg [2, 8] (mn + 1) (fun gk v2 v8 wr => ∃ (i : Nat) (a : Option Addr) (c : Nat) (l : List PA), i ≤ mn ∧ gk + i = mn + 1 ∧ v8 = .int .i64 i ∧ v2 = .slice a l.length c ∧ Ord g (((madeL p.st).take i).foldl (folStep g k) D) l ∧ LiI n n wr a l ∧ l.length ≤ c ∧ c ≤ maxLen ∧ Below w2.heap.size w2 wr)
  case atStart => exact ⟨0, a, c, l, by omega, by omega, rfl, by rw [HL0.out], HO.out, HL.out.later HBW2.out, HCAP.out.1, HCAP.out.2, Below.refl _ _⟩
  case round =>
    obtain ⟨i, a, c, l, hi, hki, rfl, rfl, ho, hli, hc1, hc2, hbr⟩ := hrel
    obtain ⟨wq, hwq⟩ : ∃ wq, wq = wr := ⟨_, rfl⟩
    subst hwq
    have HBR := Lib.hid hbr
    have HO2 := Lib.hid ho
    have HLI := Lib.hid hli
    have HC12 := Lib.hid (And.intro hc1 hc2)
    obtain ⟨ll, hll⟩ : ∃ n, n = l.length := ⟨_, rfl⟩
    rw [← hll]
    have HLL := Lib.hid hll
    have HBWQ := Lib.hid (HBW2.out.trans (hbr.mono HBW2.out.size))
    have HB1Q := Lib.hid (HB12.out.trans (hbr.mono HB12.out.size))
    have hllb : ll ≤ l.length := by omega
    clear hbr ho hli hc1 hc2 hll hllb
    by_cases hlt : i < mn
    · have hiL : i < ml.length := by have := HMN.out; omega
      have hatq := HAT.out.later HBR.out
      obtain ⟨b, off, rfl, _⟩ := hatq.head (by omega)
      have hrng := hatq.range hiL
      rw [show off + i * EQ.S = off + i * 6 from rfl] at hrng
      have hpy := (HPS.out.later HBR.out) ml[i] (List.getElem_mem hiL)
      have hyin : ml[i].1.st ∈ madeL p.st := by rw [← HMAP.out]; exact List.mem_map.2 ⟨_, List.getElem_mem hiL, rfl⟩
      have him : i < (madeL p.st).length := by rw [← HMAP.out, List.length_map]; exact hiL
      have hnx : ((madeL p.st).take (i + 1)).foldl (folStep g k) D = folStep g k (((madeL p.st).take i).foldl (folStep g k) D) ml[i].1.st := by
        rw [take_snoc him, List.foldl_append]
        have e : (madeL p.st)[i] = ml[i].1.st := by simp only [← HMAP.out, List.getElem_map]
        rw [e]
        rfl
      have hbe := fun wy (hy : Below wq.heap.size wq wy) => HBE.out ml[i] hyin wy (HBWQ.out.trans (hy.mono HBWQ.out.size)) (hpy.later hy)
      obtain ⟨hl1, hl2⟩ := HLEN.out _ hyin
      have hyt := HYT.out _ hyin
      have hdn := HDN.out _ hyin
      have hcc := HCC.out _ hyin
      obtain ⟨y, hy⟩ : ∃ y, y = ml[i] := ⟨_, rfl⟩
      simp only [← hy] at hrng hpy hnx hbe hl1 hl2 hyt hdn hcc
      simp only [hl1, hl2] at hbe
      obtain ⟨s, hs⟩ : ∃ s, s = y.1.st := ⟨_, rfl⟩
      obtain ⟨C, hC⟩ : ∃ C, C = (BG g s).1 := ⟨_, rfl⟩
      obtain ⟨N, hN⟩ : ∃ N, N = (BG g s).2 := ⟨_, rfl⟩
      simp only [← hs] at hbe hnx hdn hcc
      simp only [← hC, ← hN] at hbe hdn hcc
      obtain ⟨⟨yt, ys, yf, yb, yc, yd⟩, ysa, ysc, yfa, yfc⟩ := y
      simp only at hbe hcc
      replace hl1 : ys.length = n := hl1
      replace hl2 : yf.length = n := hl2
      replace hyt : yt = p.turn := hyt
      replace hpy : PsAt wq (⟨yt, ys, yf, yb, C, N⟩ : Pos) ysa yfa := ⟨hpy.s, hpy.f⟩
      replace hs : s = ⟨yt, ys, yf, yb⟩ := hs
      obtain ⟨X, hX⟩ : ∃ X : PA, X = (⟨yt, ys, yf, yb, C, N⟩, ysa, ysc, yfa, yfc) := ⟨_, rfl⟩
      have hXp : X.1 = posS g s := by
        rw [hX, hC, hN, hs]
        rfl
      have hxc : psCs X = [.int .i64 yt, .slice ysa n ysc, .slice yfa n yfc, .int .i64 yb, .int .i64 C, .int .i64 N] := by
        rw [hX]
        show [Value.int .i64 yt, Value.slice ysa ys.length ysc, Value.slice yfa yf.length yfc, Value.int .i64 yb, Value.int .i64 C, Value.int .i64 N] = _
        rw [hl1, hl2]
      have hXP : ∀ wy, Below wq.heap.size wq wy → PsAt wy X.1 X.2.1 X.2.2.2.1 := fun wy hy => by rw [hX]; exact hpy.later hy
      have x0 : wq.cell? ⟨b, off + i * 6, none⟩ = some (.int .i64 yt) := by have := hrng 0 _ rfl; rwa [Nat.add_zero] at this
      have x1 : wq.cell? ⟨b, off + i * 6 + 1, none⟩ = some (.slice ysa n ysc) := by have := hrng 1 _ rfl; rw [← hl1]; exact this
      have x2 : wq.cell? ⟨b, off + i * 6 + 2, none⟩ = some (.slice yfa n yfc) := by have := hrng 2 _ rfl; rw [← hl2]; exact this
      have x3 : wq.cell? ⟨b, off + i * 6 + 3, none⟩ = some (.int .i64 yb) := hrng 3 _ rfl
      have x4 : wq.cell? ⟨b, off + i * 6 + 4, none⟩ = some (.int .i64 yc) := hrng 4 _ rfl
      have x5 : wq.cell? ⟨b, off + i * 6 + 5, none⟩ = some (.int .i64 yd) := hrng 5 _ rfl
      have HBE1 := Lib.hid hbe
      have HNXT := Lib.hid hnx
      have HDN1 := Lib.hid hdn
      have HCC1 := Lib.hid hcc
      have HXP := Lib.hid hXP
      have HXS := Lib.hid hXp
      have HXC := Lib.hid hxc
      have HXE := Lib.hid hX
      have HSE := Lib.hid hs
      have HLY := Lib.hid (And.intro hl1 hl2)
      have HYT1 := Lib.hid hyt
      have HPY := Lib.hid hpy
      have i1 : (i : Int) < (mn : Int) := by omega
      have i0 : (0 : Int) ≤ (i : Int) := by omega
      have HLT := Lib.hid hlt
      clear hbe hnx hdn hcc hXP hXp hxc hX hs hl1 hl2 hyt hpy hatq hrng hyin him hy hC hN hlt hiL
      go_upto_region 8 with fail
      refine wp_named ?_
      intro w6 hw6
      obtain ⟨hb6, hs6, hx6, _⟩ := alloc1 wq [.int .i64 yt, .slice ysa n ysc, .slice yfa n yfc, .int .i64 yb, .int .i64 yc, .int .i64 yd] _ w6 hw6
      have g0 := ((HGX.out.later (HB1Q.out.trans (hb6.mono HB1Q.out.size))) 0 _ rfl).1
      have g1 := ((HGX.out.later (HB1Q.out.trans (hb6.mono HB1Q.out.size))) 1 _ rfl).1
      have g2 := ((HGX.out.later (HB1Q.out.trans (hb6.mono HB1Q.out.size))) 2 _ rfl).1
      have q0 := (hx6 0 _ rfl).1
      have q1 := (hx6 1 _ rfl).1
      have q2 := (hx6 2 _ rfl).1
      have q3 := (hx6 3 _ rfl).1
      have q4 := (hx6 4 _ rfl).1
      have q5 := (hx6 5 _ rfl).1
      have HB6 := Lib.hid hb6
      have HX6 := Lib.hid hx6
      clear hw6 hb6 hs6 hx6 x0 x1 x2 x3 x4 x5
      go_wp2_with fail
      refine Calls.mono (HBE1.out w6 HB6.out) ?_
      rintro e w7 ⟨rfl, hb7⟩
      have hx7 := HX6.out.later hb7
      have f4 := (hx7 4 _ rfl).2
      have f5 := (hx7 5 _ rfl).2
      have r4 := (hx7 4 _ rfl).1
      have r5 := (hx7 5 _ rfl).1
      have HX7 := Lib.hid hx7
      have HB7 := Lib.hid (HB6.out.trans (hb7.mono HB6.out.size))
      clear g0 g1 g2 q0 q1 q2 q3 q4 q5 hb7 hx7
      go_upto_region 9 with fail
      refine wp_named ?_
      intro w8 hw8
      have hx8 : BoxAt w8 wq.heap.size [.int .i64 yt, .slice ysa n ysc, .slice yfa n yfc, .int .i64 yb, .int .i64 C, .int .i64 N] := by
        rw [hw8]
        exact (HX7.out.put 4 (.int .i64 C) (by simp)).put 5 (.int .i64 N) (by simp)
      have hb8 : Below wq.heap.size wq w8 := by
        rw [hw8]
        exact (HB7.out.setCell (p := ⟨wq.heap.size, 4, none⟩) (Nat.le_refl _) _).setCell (p := ⟨wq.heap.size, 5, none⟩) (Nat.le_refl _) _
      have hlb : l.length ≤ 1000000 := by
        have h1 := HO2.out.len
        have h2 := HFB.out i
        have h3 := HNF.out
        have h4 := HDL.out
        have h5 : ((madeL p.st).take i).length * (1 + NF k) ≤ 7 * (1 + NF k) := Nat.mul_le_mul_right _ (by rw [List.length_take]; omega)
        omega
      have hpu := HPU.out l a c X w8 (HLI.out.later hb8) HC12.out hlb (HXP.out w8 hb8) (by rw [HXE.out]; exact HLY.out.1) (by rw [HXE.out]; exact HLY.out.2)
      rw [HXC.out, ← HLL.out] at hpu
      have HPU1 := Lib.hid hpu
      have HX8 := Lib.hid hx8
      have HB8 := Lib.hid hb8
      have q0 := (hx8 0 _ rfl).1
      have q1 := (hx8 1 _ rfl).1
      have q2 := (hx8 2 _ rfl).1
      have q3 := (hx8 3 _ rfl).1
      have q4 := (hx8 4 _ rfl).1
      have q5 := (hx8 5 _ rfl).1
      clear hw8 f4 f5 r4 r5 hpu hx8 hb8 hlb
      go_wp2_with fail
      refine Calls.mono HPU1.out ?_
      rintro e w10 ⟨a', c', l', rfl, hpo, hat', hc1', hc2', hb10⟩
      have HB10 := Lib.hid (HB8.out.trans (hb10.mono HB8.out.size))
      have HX10 := Lib.hid (HX8.out.later hb10)
      clear q0 q1 q2 q3 q4 q5 hb10
      rcases HO2.out.put HXS.out hpo with ⟨hin, rfl⟩ | ⟨hnin, ho', hlen', hmem'⟩
      · have HDQ := Lib.hid (show ((madeL p.st).take (i + 1)).foldl (folStep g k) D = ((madeL p.st).take i).foldl (folStep g k) D from HNXT.out.trans (if_pos hin))
        have HLI2 := Lib.hid (show LiI n n w10 a' l' from ⟨hat', HLI.out.ps.later HB10.out, HLI.out.len⟩)
        have HC2 := Lib.hid (And.intro hc1' hc2')
        have HBE2 := Lib.hid (HBR.out.trans (HB10.out.mono HBR.out.size))
        rw [← HLL.out]
        clear hin hpo hat' hc1' hc2'
        go_wp2_with fail
        go_roundg (mn - i)
        case measure => have := HLT.out; omega
        case rel => exact ⟨i + 1, a', c', l', HLT.out, by have := HLT.out; omega, by go_num, by rw [HLL.out], by rw [HDQ.out]; exact HO2.out, HLI2.out, HC2.out.1, HC2.out.2, HBE2.out⟩
      · obtain ⟨lk, hlk⟩ : ∃ lk, lk = l'.length := ⟨_, rfl⟩
        have hgt : ll < lk := by have := HLL.out; omega
        have hgt2 : (ll : Int) < (lk : Int) := by omega
        rw [← hlk]
        have HLK := Lib.hid hlk
        have HO3 := Lib.hid ho'
        have HLI3 := Lib.hid (show LiI n n w10 a' l' from ⟨hat', fun z hz => by
            rcases hmem' z hz with rfl | hz
            · exact HXP.out w10 HB10.out
            · exact (HLI.out.ps.later HB10.out) z hz, fun z hz => by
            rcases hmem' z hz with rfl | hz
            · rw [HXE.out]; exact HLY.out
            · exact HLI.out.len z hz⟩)
        have HC3 := Lib.hid (And.intro hc1' hc2')
        have HDQ := Lib.hid (show ((madeL p.st).take (i + 1)).foldl (folStep g k) D = followL g k (afterS s C) (((madeL p.st).take i).foldl (folStep g k) D ++ [s]) from by
          have e : C = (BG g s).1 := by
            have h := congrArg Pos.choice HXS.out
            rw [HXE.out] at h
            exact h
          rw [e]
          exact HNXT.out.trans (if_neg hnin))
        have hlb' : l'.length + NF k ≤ 1000000 := by
          have h1 := HO2.out.len
          have h2 := HFB.out i
          have h3 := HNF.out
          have h4 := HDL.out
          have h5 : ((madeL p.st).take i).length * (1 + NF k) ≤ 6 * (1 + NF k) := Nat.mul_le_mul_right _ (by have := HLT.out; rw [List.length_take]; omega)
          omega
        have HLB := Lib.hid hlb'
        clear hnin ho' hlen' hmem' hpo hat' hc1' hc2' hlk hlb'
        have hnn := fun wy (hy : Below w10.heap.size w10 wy) => HNX.out (⟨yt, ys, yf, yb, C, N⟩ : Pos) ysa yfa ysc yfc C wy (HPY.out.later (HB10.out.trans (hy.mono HB10.out.size))) (by rw [← HN.out]; exact HLY.out.1) (by exact HYT1.out) HCC1.out
        have hnl : (posN ⟨yt, ys, yf, yb, C, N⟩ C).starts.length = n := by rw [posN_len]; exact HLY.out.1
        have hnf : (posN ⟨yt, ys, yf, yb, C, N⟩ C).failed.length = n := HLY.out.2
        have hsn : (posN ⟨yt, ys, yf, yb, C, N⟩ C).st = afterS s C := by rw [HSE.out]; rfl
        have hfo := fun wy sa' sc' (hy : Below w10.heap.size w10 wy) (hp : PsAt wy (posN ⟨yt, ys, yf, yb, C, N⟩ C) sa' yfa) => HFO.out (posN ⟨yt, ys, yf, yb, C, N⟩ C) sa' yfa sc' yfc l' (((madeL p.st).take i).foldl (folStep g k) D ++ [s]) a' c' wy (HBWQ.out.trans ((HB10.out.trans (hy.mono HB10.out.size)).mono HBWQ.out.size)) hp (by rw [hsn]; exact HDN1.out) (by show yt + 1 = _; rw [HYT1.out]) HO3.out (by rw [← HN.out]; exact HLI3.out.later hy) HC3.out.1 HC3.out.2 HLB.out
        rw [hsn, ← HDQ.out] at hfo
        simp only [psV, gmV, hnl, hnf, ← HN.out, ← HGB.out.1, ← HGB.out.2, ← HLK.out, HLY.out.1, HLY.out.2] at hfo hnn
        obtain ⟨D2, hD2⟩ : ∃ D2, D2 = ((madeL p.st).take (i + 1)).foldl (folStep g k) D := ⟨_, rfl⟩
        rw [← hD2] at hfo
        have HD2 := Lib.hid hD2
        have HNN := Lib.hid hnn
        have HFO1 := Lib.hid hfo
        have HLNF := Lib.hid (And.intro hnl hnf)
        have HS11 := Lib.hid (show ∀ wy, Below w10.heap.size w10 wy → (wy.cell? ⟨w.heap.size, 0, none⟩ = some (.slice sa n sc) ∧ wy.cell? ⟨w.heap.size, 1, none⟩ = some (.slice da nd dc) ∧ wy.cell? ⟨w.heap.size, 2, none⟩ = some (.int .i64 bu)) ∧
            wy.cell? ⟨wq.heap.size, 0, none⟩ = some (.int .i64 yt) ∧ wy.cell? ⟨wq.heap.size, 1, none⟩ = some (.slice ysa n ysc) ∧ wy.cell? ⟨wq.heap.size, 2, none⟩ = some (.slice yfa n yfc) ∧ wy.cell? ⟨wq.heap.size, 3, none⟩ = some (.int .i64 yb) ∧ wy.cell? ⟨wq.heap.size, 4, none⟩ = some (.int .i64 C) ∧ wy.cell? ⟨wq.heap.size, 5, none⟩ = some (.int .i64 N) from fun wy hy => by
          have h1 := HGX.out.later (HB1Q.out.trans ((HB10.out.trans (hy.mono HB10.out.size)).mono HB1Q.out.size))
          have h2 := HX10.out.later hy
          exact ⟨⟨(h1 0 _ rfl).1, (h1 1 _ rfl).1, (h1 2 _ rfl).1⟩, (h2 0 _ rfl).1, (h2 1 _ rfl).1, (h2 2 _ rfl).1, (h2 3 _ rfl).1, (h2 4 _ rfl).1, (h2 5 _ rfl).1⟩)
        clear hnn hnl hnf hsn hfo hD2
        go_upto_region 11 with fail
        refine wp_flow_j (fun β L' w' => Below w10.heap.size w10 w' ∧ (L' 4 = true → ∃ sa' sc', β 4 = .agg #[.int .i64 (posN ⟨yt, ys, yf, yb, C, N⟩ C).turn, .slice sa' n sc', .slice yfa n yfc, .int .i64 (posN ⟨yt, ys, yf, yb, C, N⟩ C).budget, .int .i64 (posN ⟨yt, ys, yf, yb, C, N⟩ C).choice, .int .i64 (posN ⟨yt, ys, yf, yb, C, N⟩ C).bound] ∧ PsAt w' (posN ⟨yt, ys, yf, yb, C, N⟩ C) sa' yfa)
          ∧ (L' 6 = true → ∃ a2 c2 l2, β 6 = .slice a2 l2.length c2 ∧ Ord g D2 l2 ∧ LiI n n w' a2 l2 ∧ l2.length ≤ c2 ∧ c2 ≤ maxLen)) (by kernel_rfl) (by kernel_rfl) ?h0 ?_
        case h0 => exact ⟨(Below.refl _ _).drew, fun e => (by cases e), fun e => (by cases e)⟩
        iterate 4 (((with_reducible refine FlowJ.pure (v := ?_) ?_ ?_ ?_ ?_); rotate_left 1; (focus (intro _; rfl)); (focus (intro β L' w' hJ hat; (try dsimp only at hJ); (try dsimp only); simpa only [setL, Nat.reduceEqDiff, if_false] using hJ)); (focus (intro β L' w' hJ hat; (try dsimp only at hJ); (obtain ⟨⟨g0, g1, g2⟩, q0, q1, q2, q3, q4, q5⟩ := HS11.out _ hJ.1); go_simp; (try with_reducible rfl); done)); (try simp only [Act.put, List.setIfInBounds_toArray, List.set_cons_zero, List.set_cons_succ, Nat.reduceAdd])))
        ((with_reducible refine FlowJ.ghost ?_ ?_ ?_); (focus (intro _; rfl)); (focus (intro β L' w' hJ hat K' hK; (try dsimp only at hJ); ((have n6 := hat.not (j := 6) (by kernel_rfl)); have un := hat.un; simp only [un, n6] at hJ; go_simp; go_at_call 24; refine Calls.mono (HNN.out w' hJ.1) ?_; rintro e w'' ⟨sa', sc', rfl, hp, hb⟩; refine hK.out _ _ ?_; simp only [updG, setL, Nat.reduceEqDiff, if_true, if_false, n6]; exact ⟨hJ.1.trans (hb.mono hJ.1.size), fun _ => ⟨sa', sc', by simp only [psV, HLNF.out.1, HLNF.out.2], hp⟩, fun e => (by cases e)⟩))); (try simp only [Act.put, List.setIfInBounds_toArray, List.set_cons_zero, List.set_cons_succ, Nat.reduceAdd]))
        ((with_reducible refine FlowJ.pure (v := ?_) ?_ ?_ ?_ ?_); rotate_left 1; (focus (intro _; rfl)); (focus (intro β L' w' hJ hat; (try dsimp only at hJ); (try dsimp only); simpa only [setL, Nat.reduceEqDiff, if_false] using hJ)); (focus (intro β L' w' hJ hat; (try dsimp only at hJ); skip; go_simp; (try with_reducible rfl); done)); (try simp only [Act.put, List.setIfInBounds_toArray, List.set_cons_zero, List.set_cons_succ, Nat.reduceAdd]))
        ((with_reducible refine FlowJ.ghost ?_ ?_ ?_); (focus (intro _; rfl)); (focus (intro β L' w' hJ hat K' hK; (try dsimp only at hJ); ((have p4 := hat.pre 4 (by kernel_rfl)); have un := hat.un; simp only [un, p4] at hJ; obtain ⟨sa', sc', e4, hp⟩ := hJ.2.1 trivial; rw [e4]; go_simp; go_at_call 45; refine Calls.mono (HFO1.out w' sa' sc' hJ.1 hp) ?_; rintro e w'' ⟨a2, c2, l2, rfl, h1, h2, h3, h4, hb⟩; rw [← e4]; refine hK.out _ _ ?_; simp only [updG, setL, Nat.reduceEqDiff, if_true, if_false, p4]; exact ⟨hJ.1.trans (hb.mono hJ.1.size), fun _ => ⟨sa', sc', e4, hp.later hb⟩, fun _ => ⟨a2, c2, l2, rfl, h1, by rw [HN.out]; exact h2, h3, h4⟩⟩))); (try simp only [Act.put, List.setIfInBounds_toArray, List.set_cons_zero, List.set_cons_succ, Nat.reduceAdd]))
        (refine FlowJ.pureG (v := fun β => β 6) (fun β k b hk => updG_ne β b (fun e => by subst e; exact Bool.false_ne_true (hk.symm.trans (by kernel_rfl)))) (fun β b => rfl) (fun _ => rfl) (fun β L' w' hJ hat => by simpa only [setL, Nat.reduceEqDiff, if_false] using hJ) (fun β L' w' hJ hat => by go_simp; (try with_reducible rfl); done) ?_; (try simp only [Act.put, List.setIfInBounds_toArray, List.set_cons_zero, List.set_cons_succ, Nat.reduceAdd]))
        refine FlowJ.stop ?_
        dsimp only
        intro β w12 hJ
        obtain ⟨a2, c2, l2, e6, h1, h2, h3, h4⟩ := hJ.2.2 trivial
        rw [e6]
        have HBE2 := Lib.hid (HBR.out.trans ((HB10.out.trans (hJ.1.mono HB10.out.size)).mono HBR.out.size))
        have H1 := Lib.hid h1
        have H2 := Lib.hid h2
        have H34 := Lib.hid (And.intro h3 h4)
        clear hJ e6 h1 h2 h3 h4
        go_wp2_with fail
        go_roundg (mn - i)
        case measure => have := HLT.out; omega
        case rel => exact ⟨i + 1, a2, c2, l2, HLT.out, by have := HLT.out; omega, by go_num, rfl, by rw [← HD2.out]; exact H1.out, H2.out, H34.out.1, H34.out.2, HBE2.out⟩
    · obtain rfl : mn = i := by omega
      have HE := Lib.hid (show RetFo g F w (.returned (.slice a ll c)) wq from by
        refine ⟨a, c, l, by rw [HLL.out], ?_, by rw [← HN.out]; exact HLI.out, HC12.out.1, HC12.out.2, HBWQ.out⟩
        have h := HO2.out
        rw [List.take_of_length_le (by rw [← HMAP.out, List.length_map, ← HMN.out]; exact Nat.le_refl _)] at h
        rw [HFL.out]
        exact h)
      clear hlt hi hki
      go_wp2_with fail
      go_ret
      exact HE.out
theorem rfol_all (g : Gm) (sa da : Option Addr) (sc dc : Nat) (hv : VG g) : ∀ k, RFolC g sa sc da dc k
  | 0 => rfol_end g sa da sc dc
  | k + 1 => rfol_on g sa da sc dc k hv (rfol_all g sa da sc dc hv k)
end
section
open Go.RowKit Go.Maps

theorem info_boolS : (Try.prog.info? 4).map (fun i => (i.zero, i.size, i.bytes)) = some (some (.bool false), 1, 1) := by kernel_rfl
theorem mk_boolsS (n : Nat) (hn : n ≤ 1000000) (w : World) : (Instr.makeSlice 38 (.int .i64 n) (.int .i64 n)).run Try.prog w = .ok (.slice (some ⟨w.heap.size, 0, none⟩) n n) (w.alloc (.cells (List.replicate n (Value.bool false)).toArray 4)) := by
  obtain ⟨i0, hi, hz0, hz1, hz2⟩ := infoParts info_boolS
  have hr := run_make (P := Try.prog) w 38 4 i0 (.bool false) Try.underlying38 hi hz0 .i64 .i64 n n (by omega) (Int.le_refl _) (by rw [hz2]; omega) (by omega)
  simp only [Int.toNat_natCast] at hr
  rw [hr]
  have e : madeCells (Value.cells (.bool false)) (n * i0.size) = (List.replicate n (Value.bool false)).toArray := by
    rw [hz1, Nat.mul_one]
    apply Array.toList_inj.1
    exact toList_madeCells_one _ _
  rw [e]
/-- the region that makes the first position -/
structure StJ (w0 : World) (R n : Nat) (l : List Int) (zero : List Value) (fin : Value → Value → List Value) (b0 b3 b7 : Value) (l0 l3 l7 l11 : Bool) (w : World) : Prop where
  hR : R < w0.heap.size
  chg : Chg (fun k => k = R) w0 w
  e0 : l0 = true → l3 = false → EI.Own w w0.heap.size b0 []
  e3 : l3 = true → EI.Own w w0.heap.size b3 l
  e7 : l7 = true → ∃ F, b7 = .slice (some ⟨F, 0, none⟩) n n ∧ w0.heap.size ≤ F ∧ F < w.heap.size ∧ BoxAt w F (List.replicate n (.bool false)) ∧ (l0 = true → l3 = false → b0.ownBlock ≠ some F)
  res : BoxAt w R (if l11 then fin b3 b7 else zero)
section
variable {w0 w w' : World} {R n : Nat} {l : List Int} {zero : List Value} {fin : Value → Value → List Value} {b0 b3 b7 : Value} {l0 l3 l7 : Bool}
theorem StJ.made (h : StJ w0 R n l zero fin b0 b3 b7 false false l7 false w) : StJ w0 R n l zero fin (.slice (some ⟨w.heap.size, 0, none⟩) 0 0) b3 b7 true false l7 false (w.alloc (.cells #[] 3)) := by
  refine ⟨h.hR, h.chg.alloc _, fun _ _ => El.Own.lit (E := EI) w w0.heap.size h.chg.size [] (by simp) #[] rfl, fun e => (by cases e), fun e => ?_, h.res.alloc _⟩
  obtain ⟨F, h1, h2, h3, h4, h5⟩ := h.e7 e
  refine ⟨F, h1, h2, by rw [World.size_alloc]; omega, h4.alloc _, fun _ _ e => ?_⟩
  have : w.heap.size = F := by simpa [Value.ownBlock] using e
  omega
theorem StJ.app {v' : Value} (h : StJ w0 R n l zero fin b0 b3 b7 true false l7 false w) (ho : EI.Own w' w0.heap.size v' l) (hg : w.grownBy w' b0.ownBlock) : StJ w0 R n l zero fin b0 v' b7 true true l7 false w' := by
  have hr : ∀ k, b0.ownBlock = some k → w0.heap.size ≤ k := fun k hk => ((h.e0 rfl rfl).lt k hk).1
  have hRw : R < w.heap.size := Nat.lt_of_lt_of_le h.hR h.chg.size
  refine ⟨h.hR, h.chg.grown hg fun k hk hlt => by have := hr k hk; omega, fun _ e => (by cases e), fun _ => ho, fun e => ?_, h.res.block (hg.block R hRw fun e => by have := hr R e.symm; have := h.hR; omega)⟩
  obtain ⟨F, h1, h2, h3, h4, h5⟩ := h.e7 e
  exact ⟨F, h1, h2, Nat.lt_of_lt_of_le h3 hg.size, h4.block (hg.block F h3 fun e => h5 rfl rfl e.symm), fun _ e => (by cases e)⟩
theorem StJ.mk' (h : StJ w0 R n l zero fin b0 b3 b7 l0 l3 false false w) : StJ w0 R n l zero fin b0 b3 (.slice (some ⟨w.heap.size, 0, none⟩) n n) l0 l3 true false (w.alloc (.cells (List.replicate n (Value.bool false)).toArray 4)) := by
  have hb : Below w.heap.size w (w.alloc (.cells (List.replicate n (Value.bool false)).toArray 4)) := (Below.refl _ _).alloc (Nat.le_refl _) _
  refine ⟨h.hR, h.chg.alloc _, fun e e' => (h.e0 e e').later hb, fun e => (h.e3 e).later hb, fun _ => ⟨_, rfl, h.chg.size, by rw [World.size_alloc]; omega, BoxAt.new _ _ _, fun e e' e2 => ?_⟩, h.res.alloc _⟩
  have := ((h.e0 e e').lt _ e2).2
  omega
theorem StJ.done (h : StJ w0 R n l zero fin b0 b3 b7 true true true false w) (hl : ∀ u v, (fin u v).length = zero.length) : StJ w0 R n l zero fin b0 b3 b7 true true true true (w.setCells R 0 (fin b3 b7)) := by
  have hc : Chg (fun k => k = R) w (w.setCells R 0 (fin b3 b7)) := chg_setCells (S := fun k => k = R) (Chg.refl _ _) _ _ _ (fun _ => rfl)
  refine ⟨h.hR, h.chg.trans hc, fun _ e => (by cases e), fun _ => ?_, fun _ => ?_, h.res.stored (hl _ _)⟩
  · exact (h.e3 rfl).block fun b hb => hc.block b ((h.e3 rfl).lt b hb).2 fun e => by have := ((h.e3 rfl).lt b hb).1; have := h.hR; omega
  · obtain ⟨F, h1, h2, h3, h4, h5⟩ := h.e7 rfl
    exact ⟨F, h1, h2, by rw [setCells_heap]; exact h3, h4.block (hc.block F h3 fun e => by have := h.hR; omega), fun _ e => (by cases e)⟩
end
def posB0 (g : Gm) : Pos := ⟨0, g.starts, List.replicate g.starts.length false, g.budget, 0, 0⟩
theorem posB0_st (g : Gm) : (posB0 g).st = beginS g := rfl
def RetSt (g : Gm) (w : World) (e : Ending) (w' : World) : Prop := ∃ sa sc fa fc, e = .returned (psV (posB0 g) sa sc fa fc) ∧ PsAt w' (posB0 g) sa fa ∧ Below w.heap.size w w'
set_option maxRecDepth 100000 in
set_option maxHeartbeats 4000000 in
theorem start_any (g : Gm) (sa da : Option Addr) (sc dc : Nat) (w : World) (hG : GmAt w g sa da) (hv : VG g) : Calls Try.prog 30 #[gmV g sa sc da dc] w (RetSt g w) := by
  have HG := Lib.hid hG
  obtain ⟨n, hn⟩ : ∃ n, n = g.starts.length := ⟨_, rfl⟩
  obtain ⟨bu, hbu⟩ : ∃ n, n = g.budget := ⟨_, rfl⟩
  obtain ⟨nd, hnd⟩ : ∃ n, n = g.deps.length := ⟨_, rfl⟩
  have hn6 : n ≤ 6 := by rw [hn]; exact hv.1
  have HN := Lib.hid hn
  have HBU := Lib.hid hbu
  unfold gmV
  rw [← hn, ← hbu, ← hnd]
  have hmk := mk_boolsS n (by omega)
  clear hG hv hn hbu hnd
  go_enter Try.func30, Try.ntmps30
  go_upto_region 1 with fail
  refine wp_named ?_
  intro w1 hw1
  obtain ⟨hb1, hs1, ⟨hg, _⟩, hr, _⟩ := alloc2t w [.slice sa n sc, .slice da nd dc, .int .i64 bu] [.int .i64 0, .slice none 0 0, .slice none 0 0, .int .i64 0, .int .i64 0, .int .i64 0] _ _ w1 hw1
  have HB := Lib.hid hb1
  have HS1 := Lib.hid hs1
  have b0 := (hg 0 _ rfl).1
  have b2 := (hg 2 _ rfl).1
  have HI := Lib.hid (show ∀ wy : World, Chg (fun k => k = w.heap.size + 1) w1 wy → EI.At wy sa g.starts from fun wy h j u hu => by
    obtain ⟨b, off, e, hc⟩ := (Ints.el HG.out.s) j u hu
    have hlt : b < w.heap.size := World.block_lt_of_cell? _ _ hc
    exact ⟨b, off, e, h.cell (cell_later hb1 hc) (by show ¬ b = w.heap.size + 1; omega)⟩)
  obtain ⟨fin, hfin⟩ : ∃ fin : Value → Value → List Value, fin = fun u v => [.int .i64 0, u, v, .int .i64 bu, .int .i64 0, .int .i64 0] := ⟨_, rfl⟩
  have HFIN := Lib.hid (show ∀ u v, fin u v = [.int .i64 0, u, v, .int .i64 bu, .int .i64 0, .int .i64 0] from fun u v => by rw [hfin])
  have HST := Lib.hid (show StJ w1 (w.heap.size + 1) n g.starts [.int .i64 0, .slice none 0 0, .slice none 0 0, .int .i64 0, .int .i64 0, .int .i64 0] fin undef undef undef false false false false w1.drew from ⟨by omega, (Chg.refl _ _).drew, fun e => (by cases e), fun e => (by cases e), fun e => (by cases e), hr⟩)
  clear hw1 hb1 hs1 hg hr hfin
  have c0 : ∀ wy : World, Chg (fun k => k = w.heap.size + 1) w1 wy → wy.cell? ⟨w.heap.size, 0, none⟩ = some (.slice sa n sc) := fun wy h => h.cell b0 (by show ¬ w.heap.size = w.heap.size + 1; omega)
  have c2 : ∀ wy : World, Chg (fun k => k = w.heap.size + 1) w1 wy → wy.cell? ⟨w.heap.size, 2, none⟩ = some (.int .i64 bu) := fun wy h => h.cell b2 (by show ¬ w.heap.size = w.heap.size + 1; omega)
  have HC0 := Lib.hid c0
  have HC2 := Lib.hid c2
  clear b0 b2 c0 c2
  refine wp_flow_j (fun β L' w' => StJ w1 (w.heap.size + 1) n g.starts [.int .i64 0, .slice none 0 0, .slice none 0 0, .int .i64 0, .int .i64 0, .int .i64 0] fin (β 0) (β 3) (β 7) (L' 0) (L' 3) (L' 7) (L' 11) w') (by kernel_rfl) (by kernel_rfl) ?h0 ?_
  case h0 => exact HST.out
  ((with_reducible refine FlowJ.ghost ?_ ?_ ?_); (focus (intro _; rfl)); (focus (intro β L' w' hJ hat K' hK; (try dsimp only at hJ); ((have n3 := hat.not (j := 3) (by kernel_rfl)); (have n11 := hat.not (j := 11) (by kernel_rfl)); have un := hat.un; simp only [un, n3, n11] at hJ; go_simp; refine hK.out _ _ ?_; simp only [updG, setL, Nat.reduceEqDiff, if_true, if_false, n3, n11]; exact hJ.made))); (try simp only [Act.put, List.setIfInBounds_toArray, List.set_cons_zero, List.set_cons_succ, Nat.reduceAdd]))
  iterate 2 (((with_reducible refine FlowJ.pure (v := ?_) ?_ ?_ ?_ ?_); rotate_left 1; (focus (intro _; rfl)); (focus (intro β L' w' hJ hat; (try dsimp only at hJ); (try dsimp only); simpa only [setL, Nat.reduceEqDiff, if_false] using hJ)); (focus (intro β L' w' hJ hat; (try dsimp only at hJ); (have y0 := HC0.out _ hJ.chg); go_simp; (try with_reducible rfl); done)); (try simp only [Act.put, List.setIfInBounds_toArray, List.set_cons_zero, List.set_cons_succ, Nat.reduceAdd])))
  ((with_reducible refine FlowJ.ghost ?_ ?_ ?_); (focus (intro _; rfl)); (focus (intro β L' w' hJ hat K' hK; (try dsimp only at hJ); ((have p0 := hat.pre 0 (by kernel_rfl)); (have n11 := hat.not (j := 11) (by kernel_rfl)); have un := hat.un; simp only [un, p0, n11] at hJ; obtain ⟨v', w2, hr, ho, hg, hnn⟩ := El.app (E := EI) w' w1.heap.size (β 0) [] g.starts (hJ.e0 rfl rfl) sa sc (HI.out _ hJ.chg) (by have := HN.out; simp; omega) hJ.chg.size 22; rw [← HN.out] at hr; refine wp_app_eq (.tmp 3) (.tmp 5) 22 rfl _ _ rfl rfl hr ?_; refine hK.out _ _ ?_; simp only [updG, setL, Nat.reduceEqDiff, if_true, if_false, p0, n11]; exact hJ.app (by simpa using ho) hg))); (try simp only [Act.put, List.setIfInBounds_toArray, List.set_cons_zero, List.set_cons_succ, Nat.reduceAdd]))
  iterate 3 (((with_reducible refine FlowJ.pure (v := ?_) ?_ ?_ ?_ ?_); rotate_left 1; (focus (intro _; rfl)); (focus (intro β L' w' hJ hat; (try dsimp only at hJ); (try dsimp only); simpa only [setL, Nat.reduceEqDiff, if_false] using hJ)); (focus (intro β L' w' hJ hat; (try dsimp only at hJ); (have y0 := HC0.out _ hJ.chg); go_simp; (try with_reducible rfl); done)); (try simp only [Act.put, List.setIfInBounds_toArray, List.set_cons_zero, List.set_cons_succ, Nat.reduceAdd])))
  ((with_reducible refine FlowJ.ghost ?_ ?_ ?_); (focus (intro _; rfl)); (focus (intro β L' w' hJ hat K' hK; (try dsimp only at hJ); ((have n11 := hat.not (j := 11) (by kernel_rfl)); have un := hat.un; simp only [un, n11] at hJ; go_simp; refine hK.out _ _ ?_; simp only [updG, setL, Nat.reduceEqDiff, if_true, if_false, n11]; exact hJ.mk'))); (try simp only [Act.put, List.setIfInBounds_toArray, List.set_cons_zero, List.set_cons_succ, Nat.reduceAdd]))
  iterate 2 (((with_reducible refine FlowJ.pure (v := ?_) ?_ ?_ ?_ ?_); rotate_left 1; (focus (intro _; rfl)); (focus (intro β L' w' hJ hat; (try dsimp only at hJ); (try dsimp only); simpa only [setL, Nat.reduceEqDiff, if_false] using hJ)); (focus (intro β L' w' hJ hat; (try dsimp only at hJ); (have y0 := HC2.out _ hJ.chg); go_simp; (try with_reducible rfl); done)); (try simp only [Act.put, List.setIfInBounds_toArray, List.set_cons_zero, List.set_cons_succ, Nat.reduceAdd])))
  refine FlowJ.pureG (v := fun β => .agg #[.int .i64 0, β 3, β 7, .int .i64 bu, .int .i64 0, .int .i64 0]) (fun β k b hk => ?_) (fun β b => rfl) (fun _ => rfl) (fun β L' w' hJ hat => by simpa only [setL, Nat.reduceEqDiff, if_false] using hJ) (fun β L' w' hJ hat => ?_) ?_
  · have h1 : updG β k b 3 = β 3 := updG_ne β b fun e => by subst e; exact Bool.false_ne_true (hk.symm.trans (by kernel_rfl))
    have h2 : updG β k b 7 = β 7 := updG_ne β b fun e => by subst e; exact Bool.false_ne_true (hk.symm.trans (by kernel_rfl))
    simp only [h1, h2]
  · have p3 := hat.pre 3 (by kernel_rfl)
    have p7 := hat.pre 7 (by kernel_rfl)
    obtain ⟨oa, na, c3, e3⟩ := (hJ.e3 p3).shape
    obtain ⟨F, e7, _⟩ := hJ.e7 p7
    rw [e3, e7]
    clear hJ
    go_simp
    (try with_reducible rfl); done
  (try simp only [Act.put, List.setIfInBounds_toArray, List.set_cons_zero, List.set_cons_succ, Nat.reduceAdd])
  ((with_reducible refine FlowJ.eff ?_ ?_ ?_); (focus (intro _; rfl)); (focus (intro β L' w' hJ hat K' hK; (try dsimp only at hJ); ((have p10 := hat.pre 10 (by kernel_rfl)); have p7 := hat.down 10 7 p10 (by decide) (by kernel_rfl); have p3 := hat.down 10 3 p10 (by decide) (by kernel_rfl); have p0 := hat.down 3 0 p3 (by decide) (by kernel_rfl); have un := hat.un; simp only [un, p0, p3, p7] at hJ; obtain ⟨oa, na, c3, e3⟩ := (hJ.e3 rfl).shape; obtain ⟨F, e7, _⟩ := hJ.e7 rfl; have hbx := hJ.res; simp only [Bool.false_eq_true, if_false] at hbx; obtain ⟨c0, f0⟩ := hbx 0 _ rfl; obtain ⟨c1, f1⟩ := hbx 1 _ rfl; obtain ⟨c2', f2⟩ := hbx 2 _ rfl; obtain ⟨c3', f3⟩ := hbx 3 _ rfl; obtain ⟨c4, f4⟩ := hbx 4 _ rfl; obtain ⟨c5, f5⟩ := hbx 5 _ rfl; have hd := hJ.done (by intro u v; rw [HFIN.out]; rfl); rw [HFIN.out] at hd; simp only [World.setCells, Nat.zero_add, Nat.reduceAdd] at hd; rw [e3, e7]; rw [e3, e7] at hd; go_simp; rw [← e3, ← e7]; rw [← e3, ← e7] at hd; refine hK.out _ ?_; simp only [setL, Nat.reduceEqDiff, if_true, if_false, p0, p3, p7]; exact hd))); (try simp only [Act.put, Nat.reduceAdd]))
  refine FlowJ.stop ?_
  dsimp only
  intro β w5 hJ
  have ho := hJ.e3 rfl
  obtain ⟨F, e7, _, _, hF, _⟩ := hJ.e7 rfl
  obtain ⟨a3, c3, e3, _, _, hat, _⟩ := ho.at
  have hr := hJ.res
  simp only [if_true] at hr
  rw [HFIN.out, e3, e7] at hr
  have hbw : Below w.heap.size w w5 := HB.out.trans (hJ.chg.below HB.out.size fun k e => by omega)
  have q0 := (hr 0 _ rfl).1
  have q1 := (hr 1 _ rfl).1
  have q2 := (hr 2 _ rfl).1
  have q3 := (hr 3 _ rfl).1
  have q4 := (hr 4 _ rfl).1
  have q5 := (hr 5 _ rfl).1
  have HBW := Lib.hid hbw
  have HAT := Lib.hid hat
  have HF := Lib.hid hF
  rw [← HN.out] at q1
  clear hJ ho hF hat hr hbw e7 e3 hmk
  go_wp2_with fail
  refine bodyPost_ret (v := .agg #[.int .i64 0, .slice a3 n c3, .slice (some ⟨F, 0, none⟩) n n, .int .i64 bu, .int .i64 0, .int .i64 0]) (by simp [results, go_sem, q0, q1, q2, q3, q4, q5]) rfl ?_
  refine ⟨a3, c3, some ⟨F, 0, none⟩, n, ?_, ⟨HAT.out.ints, fun i hi => ⟨F, 0, rfl, ?_⟩⟩, HBW.out⟩
  · simp only [psV, posB0, List.length_replicate, HN.out, HBU.out]
  · have hi' : i < n := by have h : i < (List.replicate g.starts.length false).length := hi; rw [List.length_replicate] at h; rw [HN.out]; exact h
    rw [Nat.zero_add, (HF.out i (Value.bool false) (by rw [List.getElem?_replicate, if_pos hi'])).1, bg_lt hi]
    simp [posB0]
set_option maxRecDepth 100000 in
set_option maxHeartbeats 4000000 in
theorem rvalue_any (g : Gm) (sa da : Option Addr) (sc dc : Nat) (w : World) (hG : GmAt w g sa da) (hF : GmBig g) : Calls Try.prog 12 #[gmV g sa sc da dc] w (RetB (.tuple #[.int .i64 (valG g).1, .int .i64 (valG g).2]) w) := by
  have HG := Lib.hid hG
  have HF := Lib.hid hF
  have hvl := fun wy (hy : Below w.heap.size w wy) => rvalidG_any g sa da sc dc wy (hG.later hy) hF
  have hsm := fun (hv : VG g) wy (hy : Below w.heap.size w wy) => small_any g sa da sc dc wy (hG.later hy) hv
  have hst := fun (hv : VG g) wy (hy : Below w.heap.size w wy) => start_any g sa da sc dc wy (hG.later hy) hv
  obtain ⟨n, hn⟩ : ∃ n, n = g.starts.length := ⟨_, rfl⟩
  obtain ⟨bu, hbu⟩ : ∃ n, n = g.budget := ⟨_, rfl⟩
  obtain ⟨nd, hnd⟩ : ∃ n, n = g.deps.length := ⟨_, rfl⟩
  simp only [gmV, ← hn, ← hnd, ← hbu] at hvl hsm hst ⊢
  have HN := Lib.hid (And.intro hn (And.intro hnd hbu))
  have HVL := Lib.hid hvl
  have HSM := Lib.hid hsm
  have HST := Lib.hid hst
  clear hG hF hn hbu hnd hvl hsm hst
  go_enter Try.func12, Try.ntmps12
  go_upto_region 1 with fail
  refine wp_named ?_
  intro w1 hw1
  obtain ⟨hb1, hs1, hg, _⟩ := alloc1 w [.slice sa n sc, .slice da nd dc, .int .i64 bu] _ w1 hw1
  have HB1 := Lib.hid hb1
  have HGX := Lib.hid hg
  have c0 := (hg 0 _ rfl).1
  have c1 := (hg 1 _ rfl).1
  have c2 := (hg 2 _ rfl).1
  clear hw1 hb1 hs1 hg
  go_wp2_with fail
  refine Calls.mono (HVL.out w1 HB1.out) ?_
  rintro e w2 ⟨rfl, hb2⟩
  have HB2 := Lib.hid (HB1.out.trans (hb2.mono HB1.out.size))
  have HGX2 := Lib.hid (HGX.out.later hb2)
  have c0 := (HGX2.out 0 _ rfl).1
  have c1 := (HGX2.out 1 _ rfl).1
  have c2 := (HGX2.out 2 _ rfl).1
  clear hb2
  rcases Classical.em (¬ VG g) with hv | hv
  · have HE := Lib.hid (valG_bad hv)
    rw [vgB_false hv]
    clear hv
    go_wp2_with fail
    refine bodyPost_ret (v := .tuple #[.int .i64 0, .int .i64 1]) (by simp [results, Try.f12, go_sem]) rfl ?_
    exact retB (by rw [HE.out]) HB2.out
  replace hv : VG g := Classical.not_not.1 hv
  have HV := Lib.hid hv
  rw [vgB_true hv]
  clear hv
  go_wp2_with fail
  refine Calls.mono (HSM.out HV.out w2 HB2.out) ?_
  rintro e w3 ⟨rfl, hb3⟩
  have HB3 := Lib.hid (HB2.out.trans (hb3.mono HB2.out.size))
  have HGX3 := Lib.hid (HGX2.out.later hb3)
  clear c0 c1 c2
  have c0 := (HGX3.out 0 _ rfl).1
  have c1 := (HGX3.out 1 _ rfl).1
  have c2 := (HGX3.out 2 _ rfl).1
  clear hb3
  cases hsb : smB g
  · have HE := Lib.hid (valG_big HV.out (fun h => by rw [smB_iff.2 h] at hsb; cases hsb))
    clear hsb
    go_wp2_with fail
    refine bodyPost_ret (v := .tuple #[.int .i64 0, .int .i64 7]) (by simp [results, Try.f12, go_sem]) rfl ?_
    exact retB (by rw [HE.out]) HB3.out
  have HE := Lib.hid (valG_ok HV.out (smB_iff.1 hsb))
  have HSM2 := Lib.hid (smB_iff.1 hsb)
  clear hsb
  have hwc := fun wy sa' sc' fa' fc' (hy : Below w.heap.size w wy) (hp : PsAt wy (posB0 g) sa' fa') => (rwb_all g sa da sc dc HV.out g.deps.length).1 (posB0 g) sa' fa' sc' fc' wy (HG.out.later hy) hp (Dom.begin HV.out) (by show (0 : Int) + _ = _; omega)
  obtain ⟨V, hV⟩ : ∃ V, V = WG g (beginS g) := ⟨_, rfl⟩
  rw [posB0_st, ← hV] at hwc
  have HV0 := Lib.hid hV
  simp only [gmV, ← HN.out.1, ← HN.out.2.1, ← HN.out.2.2] at hwc
  have HWC := Lib.hid hwc
  clear hwc hV
  go_upto_region 5 with fail
  refine wp_flow_j (fun β L' w' => Below w3.heap.size w3 w' ∧ (L' 2 = true → ∃ sa' sc' fa' fc', β 2 = psV (posB0 g) sa' sc' fa' fc' ∧ PsAt w' (posB0 g) sa' fa')) (by kernel_rfl) (by kernel_rfl) ?h0 ?_
  case h0 => exact ⟨(Below.refl _ _).drew, fun e => (by cases e)⟩
  iterate 2 (((with_reducible refine FlowJ.pure (v := ?_) ?_ ?_ ?_ ?_); rotate_left 1; (focus (intro _; rfl)); (focus (intro β L' w' hJ hat; (try dsimp only at hJ); (try dsimp only); simpa only [setL, Nat.reduceEqDiff, if_false] using hJ)); (focus (intro β L' w' hJ hat; (try dsimp only at hJ); (have g0 := cell_later hJ.1 c0; have g1 := cell_later hJ.1 c1; have g2 := cell_later hJ.1 c2); go_simp; (try with_reducible rfl); done)); (try simp only [Act.put, List.setIfInBounds_toArray, List.set_cons_zero, List.set_cons_succ, Nat.reduceAdd])))
  ((with_reducible refine FlowJ.ghost ?_ ?_ ?_); (focus (intro _; rfl)); (focus (intro β L' w' hJ hat K' hK; (try dsimp only at hJ); (go_simp; go_at_call 30; refine Calls.mono (HST.out HV.out w' (HB3.out.trans (hJ.1.mono HB3.out.size))) ?_; rintro e w'' ⟨sa', sc', fa', fc', rfl, hp, hb⟩; refine hK.out _ _ ?_; simp only [updG, setL, if_true]; exact ⟨hJ.1.trans (hb.mono hJ.1.size), fun _ => ⟨sa', sc', fa', fc', rfl, hp⟩⟩))); (try simp only [Act.put, List.setIfInBounds_toArray, List.set_cons_zero, List.set_cons_succ, Nat.reduceAdd]))
  ((with_reducible refine FlowJ.call (v := ?_) ?_ ?_ ?_); rotate_left 1; (focus (intro _; rfl)); (focus (intro β L' w' hJ hat K' hK; (try dsimp only at hJ); ((have p2 := hat.pre 2 (by kernel_rfl)); obtain ⟨sa', sc', fa', fc', e2, hp⟩ := hJ.2 p2; rw [e2]; go_simp; go_at_call 29; refine Calls.mono (HWC.out w' sa' sc' fa' fc' (HB3.out.trans (hJ.1.mono HB3.out.size)) hp) ?_; rintro e w'' ⟨rfl, hb⟩; rw [← e2]; refine hK.out _ ?_; simp only [setL, Nat.reduceEqDiff, if_false]; exact ⟨hJ.1.trans (hb.mono hJ.1.size), fun _ => ⟨sa', sc', fa', fc', e2, hp.later hb⟩⟩))); (try simp only [Act.put, List.setIfInBounds_toArray, List.set_cons_zero, List.set_cons_succ, Nat.reduceAdd]))
  iterate 2 (((with_reducible refine FlowJ.pure (v := ?_) ?_ ?_ ?_ ?_); rotate_left 1; (focus (intro _; rfl)); (focus (intro β L' w' hJ hat; (try dsimp only at hJ); (try dsimp only); simpa only [setL, Nat.reduceEqDiff, if_false] using hJ)); (focus (intro β L' w' hJ hat; (try dsimp only at hJ); skip; go_simp; (try with_reducible rfl); done)); (try simp only [Act.put, List.setIfInBounds_toArray, List.set_cons_zero, List.set_cons_succ, Nat.reduceAdd])))
  refine FlowJ.stop ?_
  dsimp only
  intro β w5 hJ
  have HBE := Lib.hid (HB3.out.trans (hJ.1.mono HB3.out.size))
  clear hJ
  go_wp2_with fail
  refine bodyPost_ret (v := .tuple #[.int .i64 V, .int .i64 0]) (by simp [results, Try.f12, go_sem]) rfl ?_
  exact retB (by rw [HE.out, HV0.out]) HBE.out
def RetRp (g : Gm) (w : World) (e : Ending) (w' : World) : Prop := Below w.heap.size w w' ∧
  ((¬ VG g ∧ e = .returned (.tuple #[.slice none 0 0, .int .i64 1])) ∨ (VG g ∧ ¬ SmG g ∧ e = .returned (.tuple #[.slice none 0 0, .int .i64 7])) ∨
    (VG g ∧ SmG g ∧ ∃ a c l, e = .returned (.tuple #[.slice a l.length c, .int .i64 0]) ∧ Ord g (followL g g.deps.length (beginS g) []) l ∧ LiI g.starts.length g.starts.length w' a l))
set_option maxRecDepth 100000 in
set_option maxHeartbeats 4000000 in
theorem rplan_any (g : Gm) (sa da : Option Addr) (sc dc : Nat) (w : World) (hG : GmAt w g sa da) (hF : GmBig g) (h4 : VG g → SmG g → g.deps.length ≤ 4) : Calls Try.prog 14 #[gmV g sa sc da dc] w (RetRp g w) := by
  have HG := Lib.hid hG
  have HF := Lib.hid hF
  have hvl := fun wy (hy : Below w.heap.size w wy) => rvalidG_any g sa da sc dc wy (hG.later hy) hF
  have hsm := fun (hv : VG g) wy (hy : Below w.heap.size w wy) => small_any g sa da sc dc wy (hG.later hy) hv
  have hst := fun (hv : VG g) wy (hy : Below w.heap.size w wy) => start_any g sa da sc dc wy (hG.later hy) hv
  obtain ⟨n, hn⟩ : ∃ n, n = g.starts.length := ⟨_, rfl⟩
  obtain ⟨bu, hbu⟩ : ∃ n, n = g.budget := ⟨_, rfl⟩
  obtain ⟨nd, hnd⟩ : ∃ n, n = g.deps.length := ⟨_, rfl⟩
  simp only [gmV, ← hn, ← hnd, ← hbu] at hvl hsm hst ⊢
  have HN := Lib.hid (And.intro hn (And.intro hnd hbu))
  have HVL := Lib.hid hvl
  have HSM := Lib.hid hsm
  have HST := Lib.hid hst
  clear hG hF hn hbu hnd hvl hsm hst
  go_enter Try.func14, Try.ntmps14
  go_upto_region 1 with fail
  refine wp_named ?_
  intro w1 hw1
  obtain ⟨hb1, hs1, hg, _⟩ := alloc1 w [.slice sa n sc, .slice da nd dc, .int .i64 bu] _ w1 hw1
  have HB1 := Lib.hid hb1
  have HGX := Lib.hid hg
  have c0 := (hg 0 _ rfl).1
  have c1 := (hg 1 _ rfl).1
  have c2 := (hg 2 _ rfl).1
  clear hw1 hb1 hs1 hg
  go_wp2_with fail
  refine Calls.mono (HVL.out w1 HB1.out) ?_
  rintro e w2 ⟨rfl, hb2⟩
  have HB2 := Lib.hid (HB1.out.trans (hb2.mono HB1.out.size))
  have HGX2 := Lib.hid (HGX.out.later hb2)
  have c0 := (HGX2.out 0 _ rfl).1
  have c1 := (HGX2.out 1 _ rfl).1
  have c2 := (HGX2.out 2 _ rfl).1
  clear hb2
  rcases Classical.em (¬ VG g) with hv | hv
  · have HV := Lib.hid hv
    rw [vgB_false hv]
    clear hv
    go_wp2_with fail
    refine bodyPost_ret (v := .tuple #[.slice none 0 0, .int .i64 1]) (by simp [results, Try.f14, go_sem]) rfl ?_
    exact ⟨HB2.out, .inl ⟨HV.out, rfl⟩⟩
  replace hv : VG g := Classical.not_not.1 hv
  have HV := Lib.hid hv
  rw [vgB_true hv]
  clear hv
  go_wp2_with fail
  refine Calls.mono (HSM.out HV.out w2 HB2.out) ?_
  rintro e w3 ⟨rfl, hb3⟩
  have HB3 := Lib.hid (HB2.out.trans (hb3.mono HB2.out.size))
  have HGX3 := Lib.hid (HGX2.out.later hb3)
  clear c0 c1 c2
  have c0 := (HGX3.out 0 _ rfl).1
  have c1 := (HGX3.out 1 _ rfl).1
  have c2 := (HGX3.out 2 _ rfl).1
  clear hb3
  cases hsb : smB g
  · have HE := Lib.hid (show ¬ SmG g from fun h => by rw [smB_iff.2 h] at hsb; cases hsb)
    clear hsb
    go_wp2_with fail
    refine bodyPost_ret (v := .tuple #[.slice none 0 0, .int .i64 7]) (by simp [results, Try.f14, go_sem]) rfl ?_
    exact ⟨HB3.out, .inr (.inl ⟨HV.out, HE.out, rfl⟩)⟩
  have HSM2 := Lib.hid (smB_iff.1 hsb)
  clear hsb
  have hNF : NF g.deps.length ≤ 1000000 := by
    have h := h4 HV.out HSM2.out
    have : g.deps.length = 0 ∨ g.deps.length = 1 ∨ g.deps.length = 2 ∨ g.deps.length = 3 ∨ g.deps.length = 4 := by omega
    rcases this with e | e | e | e | e <;> rw [e] <;> decide
  have hfo := fun wy sa' sc' fa' fc' (hy : Below w.heap.size w wy) (hp : PsAt wy (posB0 g) sa' fa') => rfol_all g sa da sc dc HV.out g.deps.length (posB0 g) sa' fa' sc' fc' [] [] none 0 wy (HG.out.later hy) hp (Dom.begin HV.out) (by show (0 : Int) + _ = _; omega) (Ord.nil g) ⟨El.At.nil, fun _ h => (by cases h), fun _ h => (by cases h)⟩ (Nat.le_refl _) (Nat.zero_le _) (by simpa using hNF)
  obtain ⟨D, hD⟩ : ∃ D, D = followL g g.deps.length (beginS g) [] := ⟨_, rfl⟩
  rw [posB0_st, ← hD] at hfo
  have HD := Lib.hid hD
  simp only [gmV, ← HN.out.1, ← HN.out.2.1, ← HN.out.2.2, List.length_nil] at hfo
  have HFO := Lib.hid hfo
  clear hfo hD hNF h4
  go_upto_region 5 with fail
  refine wp_flow_j (fun β L' w' => Below w3.heap.size w3 w' ∧ (L' 2 = true → ∃ sa' sc' fa' fc', β 2 = psV (posB0 g) sa' sc' fa' fc' ∧ PsAt w' (posB0 g) sa' fa') ∧ (L' 3 = true → ∃ a2 c2 l2, β 3 = .slice a2 l2.length c2 ∧ Ord g D l2 ∧ LiI g.starts.length g.starts.length w' a2 l2)) (by kernel_rfl) (by kernel_rfl) ?h0 ?_
  case h0 => exact ⟨(Below.refl _ _).drew, fun e => (by cases e), fun e => (by cases e)⟩
  iterate 2 (((with_reducible refine FlowJ.pure (v := ?_) ?_ ?_ ?_ ?_); rotate_left 1; (focus (intro _; rfl)); (focus (intro β L' w' hJ hat; (try dsimp only at hJ); (try dsimp only); simpa only [setL, Nat.reduceEqDiff, if_false] using hJ)); (focus (intro β L' w' hJ hat; (try dsimp only at hJ); (have g0 := cell_later hJ.1 c0; have g1 := cell_later hJ.1 c1; have g2 := cell_later hJ.1 c2); go_simp; (try with_reducible rfl); done)); (try simp only [Act.put, List.setIfInBounds_toArray, List.set_cons_zero, List.set_cons_succ, Nat.reduceAdd])))
  ((with_reducible refine FlowJ.ghost ?_ ?_ ?_); (focus (intro _; rfl)); (focus (intro β L' w' hJ hat K' hK; (try dsimp only at hJ); ((have n3 := hat.not (j := 3) (by kernel_rfl)); have un := hat.un; simp only [un, n3] at hJ; go_simp; go_at_call 30; refine Calls.mono (HST.out HV.out w' (HB3.out.trans (hJ.1.mono HB3.out.size))) ?_; rintro e w'' ⟨sa', sc', fa', fc', rfl, hp, hb⟩; refine hK.out _ _ ?_; simp only [updG, setL, Nat.reduceEqDiff, if_true, if_false, n3]; exact ⟨hJ.1.trans (hb.mono hJ.1.size), fun _ => ⟨sa', sc', fa', fc', rfl, hp⟩, fun e => (by cases e)⟩))); (try simp only [Act.put, List.setIfInBounds_toArray, List.set_cons_zero, List.set_cons_succ, Nat.reduceAdd]))
  ((with_reducible refine FlowJ.ghost ?_ ?_ ?_); (focus (intro _; rfl)); (focus (intro β L' w' hJ hat K' hK; (try dsimp only at hJ); ((have p2 := hat.pre 2 (by kernel_rfl)); have un := hat.un; simp only [un, p2] at hJ; obtain ⟨sa', sc', fa', fc', e2, hp⟩ := hJ.2.1 trivial; rw [e2]; go_simp; go_at_call 45; refine Calls.mono (HFO.out w' sa' sc' fa' fc' (HB3.out.trans (hJ.1.mono HB3.out.size)) hp) ?_; rintro e w'' ⟨a2, c2, l2, rfl, h1, h2, h3, h4, hb⟩; rw [← e2]; refine hK.out _ _ ?_; simp only [updG, setL, Nat.reduceEqDiff, if_true, if_false, p2]; exact ⟨hJ.1.trans (hb.mono hJ.1.size), fun _ => ⟨sa', sc', fa', fc', e2, hp.later hb⟩, fun _ => ⟨a2, c2, l2, rfl, h1, h2⟩⟩))); (try simp only [Act.put, List.setIfInBounds_toArray, List.set_cons_zero, List.set_cons_succ, Nat.reduceAdd]))
  (refine FlowJ.pureG (v := fun β => β 3) (fun β k b hk => updG_ne β b (fun e => by subst e; exact Bool.false_ne_true (hk.symm.trans (by kernel_rfl)))) (fun β b => rfl) (fun _ => rfl) (fun β L' w' hJ hat => by simpa only [setL, Nat.reduceEqDiff, if_false] using hJ) (fun β L' w' hJ hat => by go_simp; (try with_reducible rfl); done) ?_; (try simp only [Act.put, List.setIfInBounds_toArray, List.set_cons_zero, List.set_cons_succ, Nat.reduceAdd]))
  ((with_reducible refine FlowJ.pure (v := ?_) ?_ ?_ ?_ ?_); rotate_left 1; (focus (intro _; rfl)); (focus (intro β L' w' hJ hat; (try dsimp only at hJ); (try dsimp only); simpa only [setL, Nat.reduceEqDiff, if_false] using hJ)); (focus (intro β L' w' hJ hat; (try dsimp only at hJ); skip; go_simp; (try with_reducible rfl); done)); (try simp only [Act.put, List.setIfInBounds_toArray, List.set_cons_zero, List.set_cons_succ, Nat.reduceAdd]))
  refine FlowJ.stop ?_
  dsimp only
  intro β w5 hJ
  obtain ⟨a2, c2, l2, e3, h1, h2⟩ := hJ.2.2 trivial
  have HBE := Lib.hid (HB3.out.trans (hJ.1.mono HB3.out.size))
  have H1 := Lib.hid h1
  have H2 := Lib.hid h2
  rw [e3]
  clear hJ e3 h1 h2
  go_wp2_with fail
  refine bodyPost_ret (v := .tuple #[.slice a2 l2.length c2, .int .i64 0]) (by simp [results, Try.f14, go_sem]) rfl ?_
  exact ⟨HBE.out, .inr (.inr ⟨HV.out, HSM2.out, a2, c2, l2, rfl, by rw [← HD.out]; exact H1.out, H2.out⟩)⟩
end
section
open Go.RowKit Go.Maps

set_option maxRecDepth 100000 in
set_option maxHeartbeats 4000000 in
theorem same_any (n : Nat) (l k : List PA) (a b : Option Addr) (c d : Nat) (w : World) (hL : LiI n n w a l) (hK : LiI n n w b k) (he : l.map (·.1) = k.map (·.1)) (hb : n ≤ 1000) (hll : l.length ≤ 100000000) : Calls Try.prog 17 #[.slice a l.length c, .slice b k.length d] w (RetB (.bool true) w) := by
  have hlk : k.length = l.length := by have := congrArg List.length he; simpa using this.symm
  have heq : ∀ i (h : i < l.length) (h' : i < k.length), l[i].1 = k[i].1 := fun i h h' => by
    have h1 : (l.map (·.1))[i]? = (k.map (·.1))[i]? := by rw [he]
    rw [List.getElem?_map, List.getElem?_map, List.getElem?_eq_getElem h, List.getElem?_eq_getElem h'] at h1
    simpa using h1
  rw [hlk]
  obtain ⟨ll, hll2⟩ : ∃ n, n = l.length := ⟨_, rfl⟩
  rw [← hll2] at hll ⊢
  have HL := Lib.hid hL
  have HK := Lib.hid hK
  have HLL := Lib.hid hll2
  have HLK := Lib.hid hlk
  have HEQ := Lib.hid heq
  clear hL hK hlk heq he hll2
  go_enter Try.func17, Try.ntmps17
  go_wp2_with fail
  go_loopg [5] (ll + 1) (fun gk v5 wr => ∃ i : Nat, i ≤ ll ∧ gk + i = ll + 1 ∧ v5 = .int .i64 i ∧ Below w.heap.size w wr)
  case atStart => exact ⟨0, by omega, by omega, rfl, Below.refl _ _⟩
  case round =>
    obtain ⟨i, hi, hgi, rfl, hbr⟩ := hrel
    obtain ⟨wq, hwq⟩ : ∃ wq, wq = wr := ⟨_, rfl⟩
    subst hwq
    have HBR := Lib.hid hbr
    by_cases hlt : i < ll
    · have hiL : i < l.length := by have := HLL.out; omega
      have hiK : i < k.length := by have := HLK.out; omega
      have hLq := HL.out.later hbr
      have hKq := HK.out.later hbr
      obtain ⟨ab, ao, rfl, _⟩ := hLq.at'.head (by omega)
      obtain ⟨bb, bo, rfl, _⟩ := hKq.at'.head (by omega)
      have hrx := hLq.at'.range hiL
      have hry := hKq.at'.range hiK
      rw [show ao + i * EQ.S = ao + i * 6 from rfl] at hrx
      rw [show bo + i * EQ.S = bo + i * 6 from rfl] at hry
      have hxy := HEQ.out i hiL hiK
      obtain ⟨hl1, hl2⟩ := HL.out.len _ (List.getElem_mem hiL)
      have hrc := fun wy (hy : Below wq.heap.size wq wy) => rcmp_any l[i] k[i] wy ((hLq.later hy).ps _ (List.getElem_mem hiL)) ((hKq.later hy).ps _ (List.getElem_mem hiK)) (by rw [← hxy]) (by rw [← hxy]) (by rw [hl1, hl2]; omega)
      obtain ⟨x, hx⟩ : ∃ x, x = l[i] := ⟨_, rfl⟩
      obtain ⟨y, hy⟩ : ∃ y, y = k[i] := ⟨_, rfl⟩
      simp only [← hx, ← hy] at hrx hry hxy hl1 hl2 hrc
      obtain ⟨yp, ysa, ysc, yfa, yfc⟩ := y
      obtain ⟨xp, xsa, xsc, xfa, xfc⟩ := x
      simp only at hxy
      subst hxy
      obtain ⟨xt, xs, xf, xb, xc, xd⟩ := xp
      replace hl1 : xs.length = n := hl1
      replace hl2 : xf.length = n := hl2
      have hxc : psCs (⟨xt, xs, xf, xb, xc, xd⟩, xsa, xsc, xfa, xfc) = [.int .i64 xt, .slice xsa n xsc, .slice xfa n xfc, .int .i64 xb, .int .i64 xc, .int .i64 xd] := by
        show [Value.int .i64 xt, Value.slice xsa xs.length xsc, Value.slice xfa xf.length xfc, Value.int .i64 xb, Value.int .i64 xc, Value.int .i64 xd] = _
        rw [hl1, hl2]
      have hyc : psCs (⟨xt, xs, xf, xb, xc, xd⟩, ysa, ysc, yfa, yfc) = [.int .i64 xt, .slice ysa n ysc, .slice yfa n yfc, .int .i64 xb, .int .i64 xc, .int .i64 xd] := by
        show [Value.int .i64 xt, Value.slice ysa xs.length ysc, Value.slice yfa xf.length yfc, Value.int .i64 xb, Value.int .i64 xc, Value.int .i64 xd] = _
        rw [hl1, hl2]
      have ez : cmpP (⟨xt, xs, xf, xb, xc, xd⟩ : Pos) ⟨xt, xs, xf, xb, xc, xd⟩ = 0 := cmpP_of rfl
      simp only [hxc, hyc, ez] at hrc
      have hrx' : wq.rangeAt ab (ao + i * 6) [.int .i64 xt, .slice xsa n xsc, .slice xfa n xfc, .int .i64 xb, .int .i64 xc, .int .i64 xd] := by rw [← hxc]; exact hrx
      have hry' : wq.rangeAt bb (bo + i * 6) [.int .i64 xt, .slice ysa n ysc, .slice yfa n yfc, .int .i64 xb, .int .i64 xc, .int .i64 xd] := by rw [← hyc]; exact hry
      have x0 : wq.cell? ⟨ab, ao + i * 6, none⟩ = some (.int .i64 xt) := hrx' 0 _ rfl
      have x1 : wq.cell? ⟨ab, ao + i * 6 + 1, none⟩ = some (.slice xsa n xsc) := hrx' 1 _ rfl
      have x2 : wq.cell? ⟨ab, ao + i * 6 + 2, none⟩ = some (.slice xfa n xfc) := hrx' 2 _ rfl
      have x3 : wq.cell? ⟨ab, ao + i * 6 + 3, none⟩ = some (.int .i64 xb) := hrx' 3 _ rfl
      have x4 : wq.cell? ⟨ab, ao + i * 6 + 4, none⟩ = some (.int .i64 xc) := hrx' 4 _ rfl
      have x5 : wq.cell? ⟨ab, ao + i * 6 + 5, none⟩ = some (.int .i64 xd) := hrx' 5 _ rfl
      have y0 : wq.cell? ⟨bb, bo + i * 6, none⟩ = some (.int .i64 xt) := hry' 0 _ rfl
      have y1 : wq.cell? ⟨bb, bo + i * 6 + 1, none⟩ = some (.slice ysa n ysc) := hry' 1 _ rfl
      have y2 : wq.cell? ⟨bb, bo + i * 6 + 2, none⟩ = some (.slice yfa n yfc) := hry' 2 _ rfl
      have y3 : wq.cell? ⟨bb, bo + i * 6 + 3, none⟩ = some (.int .i64 xb) := hry' 3 _ rfl
      have y4 : wq.cell? ⟨bb, bo + i * 6 + 4, none⟩ = some (.int .i64 xc) := hry' 4 _ rfl
      have y5 : wq.cell? ⟨bb, bo + i * 6 + 5, none⟩ = some (.int .i64 xd) := hry' 5 _ rfl
      have HRC := Lib.hid hrc
      have i1 : (i : Int) < (ll : Int) := by omega
      have i0 : (0 : Int) ≤ (i : Int) := by omega
      have HLT := Lib.hid hlt
      have hS : ∀ wy : World, Below wq.heap.size wq wy → wy.cell? ⟨ab, ao + i * 6, none⟩ = some (.int .i64 xt) ∧ wy.cell? ⟨ab, ao + i * 6 + 1, none⟩ = some (.slice xsa n xsc) ∧ wy.cell? ⟨ab, ao + i * 6 + 2, none⟩ = some (.slice xfa n xfc) ∧ wy.cell? ⟨ab, ao + i * 6 + 3, none⟩ = some (.int .i64 xb) ∧ wy.cell? ⟨ab, ao + i * 6 + 4, none⟩ = some (.int .i64 xc) ∧ wy.cell? ⟨ab, ao + i * 6 + 5, none⟩ = some (.int .i64 xd)
          ∧ wy.cell? ⟨bb, bo + i * 6, none⟩ = some (.int .i64 xt) ∧ wy.cell? ⟨bb, bo + i * 6 + 1, none⟩ = some (.slice ysa n ysc) ∧ wy.cell? ⟨bb, bo + i * 6 + 2, none⟩ = some (.slice yfa n yfc) ∧ wy.cell? ⟨bb, bo + i * 6 + 3, none⟩ = some (.int .i64 xb) ∧ wy.cell? ⟨bb, bo + i * 6 + 4, none⟩ = some (.int .i64 xc) ∧ wy.cell? ⟨bb, bo + i * 6 + 5, none⟩ = some (.int .i64 xd) := fun wy hy =>
        ⟨cell_later hy x0, cell_later hy x1, cell_later hy x2, cell_later hy x3, cell_later hy x4, cell_later hy x5, cell_later hy y0, cell_later hy y1, cell_later hy y2, cell_later hy y3, cell_later hy y4, cell_later hy y5⟩
      clear hrc hrx hry hrx' hry' hl1 hl2 hx hy hxc hyc ez x0 x1 x2 x3 x4 x5 y0 y1 y2 y3 y4 y5 hLq hKq hlt hbr
      have hnd : (List.map Bx.k [PB 8 10 [.int .i64 0, .slice none 0 0, .slice none 0 0, .int .i64 0, .int .i64 0, .int .i64 0] [.int .i64 xt, .slice xsa n xsc, .slice xfa n xfc, .int .i64 xb, .int .i64 xc, .int .i64 xd], PB 9 11 [.int .i64 0, .slice none 0 0, .slice none 0 0, .int .i64 0, .int .i64 0, .int .i64 0] [.int .i64 xt, .slice ysa n ysc, .slice yfa n yfc, .int .i64 xb, .int .i64 xc, .int .i64 xd]]).Nodup := by simp
      go_upto_region 6 with fail
      refine wp_flow_s [PB 8 10 [.int .i64 0, .slice none 0 0, .slice none 0 0, .int .i64 0, .int .i64 0, .int .i64 0] [.int .i64 xt, .slice xsa n xsc, .slice xfa n xfc, .int .i64 xb, .int .i64 xc, .int .i64 xd], PB 9 11 [.int .i64 0, .slice none 0 0, .slice none 0 0, .int .i64 0, .int .i64 0, .int .i64 0] [.int .i64 xt, .slice ysa n ysc, .slice yfa n yfc, .int .i64 xb, .int .i64 xc, .int .i64 xd]] [] (by kernel_rfl) (by kernel_rfl) (by kernel_rfl) ?_
      repeat (first | ((with_reducible refine Flow.pure hS StayG.nil (v := ?_) ?_ ?_ ?_ ?_); rotate_left 1; (focus kernel_rfl); (focus (intro _; rfl)); (focus (intro β wx hSw; (try dsimp only at hSw); go_simp; (try with_reducible rfl); done)); (try simp only [Act.put, List.setIfInBounds_toArray, List.set_cons_zero, List.set_cons_succ, Nat.reduceAdd])) | ((with_reducible refine Flow.skip StayG.nil ?_ ?_ ?_); (focus kernel_rfl); (focus (intro _; rfl)); (try simp only [Act.put, List.setIfInBounds_toArray, List.set_cons_zero, List.set_cons_succ, Nat.reduceAdd])) | ((with_reducible refine Flow.make hS StayG.nil (PB 8 10 [.int .i64 0, .slice none 0 0, .slice none 0 0, .int .i64 0, .int .i64 0, .int .i64 0] [.int .i64 xt, .slice xsa n xsc, .slice xfa n xfc, .int .i64 xb, .int .i64 xc, .int .i64 xd]) 40 hnd ?_ ?_ ?_ ?_ ?_ ?_ ?_ ?_ ?_); (focus (simp; done)); (focus rfl); (focus kernel_rfl); (focus kernel_rfl); (focus (exact Or.inr ⟨_, rfl, by decide, by kernel_rfl⟩)); (focus (intro _; rfl)); (focus (intro _; rfl)); (focus (intro β wx hSw; (try dsimp only at hSw); go_simp; (try with_reducible rfl); done)); (try simp only [Act.put, List.setIfInBounds_toArray, List.set_cons_zero, List.set_cons_succ, Nat.reduceAdd])) | ((with_reducible refine Flow.make hS StayG.nil (PB 9 11 [.int .i64 0, .slice none 0 0, .slice none 0 0, .int .i64 0, .int .i64 0, .int .i64 0] [.int .i64 xt, .slice ysa n ysc, .slice yfa n yfc, .int .i64 xb, .int .i64 xc, .int .i64 xd]) 40 hnd ?_ ?_ ?_ ?_ ?_ ?_ ?_ ?_ ?_); (focus (simp; done)); (focus rfl); (focus kernel_rfl); (focus kernel_rfl); (focus (exact Or.inr ⟨_, rfl, by decide, by kernel_rfl⟩)); (focus (intro _; rfl)); (focus (intro _; rfl)); (focus (intro β wx hSw; (try dsimp only at hSw); go_simp; (try with_reducible rfl); done)); (try simp only [Act.put, List.setIfInBounds_toArray, List.set_cons_zero, List.set_cons_succ, Nat.reduceAdd])) | ((with_reducible refine Flow.store hS (fun _ h => absurd h (by simp)) (PB 8 10 [.int .i64 0, .slice none 0 0, .slice none 0 0, .int .i64 0, .int .i64 0, .int .i64 0] [.int .i64 xt, .slice xsa n xsc, .slice xfa n xfc, .int .i64 xb, .int .i64 xc, .int .i64 xd]) hnd ?_ ?_ ?_ ?_ ?_ ?_ ?_ ?_ ?_ ?_); (focus (simp; done)); (focus rfl); (focus rfl); (focus kernel_rfl); (focus kernel_rfl); (focus kernel_rfl); (focus kernel_rfl); (focus (intro _; rfl)); (focus (intro β n wx hSw hβ hc; (try dsimp only at hSw hβ); (have hc0 := hc 0 _ rfl; have hc1 := hc 1 _ rfl; have hc2 := hc 2 _ rfl; have hc3 := hc 3 _ rfl; have hc4 := hc 4 _ rfl; have hc5 := hc 5 _ rfl; obtain ⟨hc0, hf0⟩ := hc0; obtain ⟨hc1, hf1⟩ := hc1; obtain ⟨hc2, hf2⟩ := hc2; obtain ⟨hc3, hf3⟩ := hc3; obtain ⟨hc4, hf4⟩ := hc4; obtain ⟨hc5, hf5⟩ := hc5); clear hc; simp only [World.setCells]; go_simp; (try with_reducible rfl); done)); (try simp only [Act.put, Nat.reduceAdd])) | ((with_reducible refine Flow.store hS (fun _ h => absurd h (by simp)) (PB 9 11 [.int .i64 0, .slice none 0 0, .slice none 0 0, .int .i64 0, .int .i64 0, .int .i64 0] [.int .i64 xt, .slice ysa n ysc, .slice yfa n yfc, .int .i64 xb, .int .i64 xc, .int .i64 xd]) hnd ?_ ?_ ?_ ?_ ?_ ?_ ?_ ?_ ?_ ?_); (focus (simp; done)); (focus rfl); (focus rfl); (focus kernel_rfl); (focus kernel_rfl); (focus kernel_rfl); (focus kernel_rfl); (focus (intro _; rfl)); (focus (intro β n wx hSw hβ hc; (try dsimp only at hSw hβ); (have hc0 := hc 0 _ rfl; have hc1 := hc 1 _ rfl; have hc2 := hc 2 _ rfl; have hc3 := hc 3 _ rfl; have hc4 := hc 4 _ rfl; have hc5 := hc 5 _ rfl; obtain ⟨hc0, hf0⟩ := hc0; obtain ⟨hc1, hf1⟩ := hc1; obtain ⟨hc2, hf2⟩ := hc2; obtain ⟨hc3, hf3⟩ := hc3; obtain ⟨hc4, hf4⟩ := hc4; obtain ⟨hc5, hf5⟩ := hc5); clear hc; simp only [World.setCells]; go_simp; (try with_reducible rfl); done)); (try simp only [Act.put, Nat.reduceAdd])))
      ((with_reducible refine Flow.stop ?_); dsimp only; intro β w4 hI4)
      have HB4 := Lib.hid hI4.below
      obtain ⟨se, slo, shi, sq⟩ := hI4.box (PB 8 10 [.int .i64 0, .slice none 0 0, .slice none 0 0, .int .i64 0, .int .i64 0, .int .i64 0] [.int .i64 xt, .slice xsa n xsc, .slice xfa n xfc, .int .i64 xb, .int .i64 xc, .int .i64 xd]) (by simp) rfl
      obtain ⟨te, tlo, thi, tq⟩ := hI4.box (PB 9 11 [.int .i64 0, .slice none 0 0, .slice none 0 0, .int .i64 0, .int .i64 0, .int .i64 0] [.int .i64 xt, .slice ysa n ysc, .slice yfa n yfc, .int .i64 xb, .int .i64 xc, .int .i64 xd]) (by simp) rfl
      obtain ⟨S, hSb⟩ : ∃ S, S = blk (β 8) := ⟨_, rfl⟩
      obtain ⟨T, hTb⟩ : ∃ T, T = blk (β 9) := ⟨_, rfl⟩
      dsimp only [PB] at se te sq tq
      rw [← hSb] at se sq
      rw [← hTb] at te tq
      rw [se, te]
      have HSQ := Lib.hid (show BoxAt w4 S [.int .i64 xt, .slice xsa n xsc, .slice xfa n xfc, .int .i64 xb, .int .i64 xc, .int .i64 xd] from sq)
      have HTQ := Lib.hid (show BoxAt w4 T [.int .i64 xt, .slice ysa n ysc, .slice yfa n yfc, .int .i64 xb, .int .i64 xc, .int .i64 xd] from tq)
      have s0 := (HSQ.out 0 _ rfl).1
      have s1 := (HSQ.out 1 _ rfl).1
      have s2 := (HSQ.out 2 _ rfl).1
      have s3 := (HSQ.out 3 _ rfl).1
      have s4 := (HSQ.out 4 _ rfl).1
      have s5 := (HSQ.out 5 _ rfl).1
      have t0 := (HTQ.out 0 _ rfl).1
      have t1 := (HTQ.out 1 _ rfl).1
      have t2 := (HTQ.out 2 _ rfl).1
      have t3 := (HTQ.out 3 _ rfl).1
      have t4 := (HTQ.out 4 _ rfl).1
      have t5 := (HTQ.out 5 _ rfl).1
      clear hS hI4 se te sq tq slo shi tlo thi hSb hTb
      go_wp2_with fail
      refine Calls.mono (HRC.out w4 HB4.out) ?_
      rintro e w5 ⟨rfl, hb5⟩
      have s4' := ((HSQ.out.later hb5) 4 _ rfl).1
      have s5' := ((HSQ.out.later hb5) 5 _ rfl).1
      have t4' := ((HTQ.out.later hb5) 4 _ rfl).1
      have t5' := ((HTQ.out.later hb5) 5 _ rfl).1
      have HB5 := Lib.hid (HBR.out.trans ((HB4.out.trans (hb5.mono HB4.out.size)).mono HBR.out.size))
      clear s0 s1 s2 s3 s4 s5 t0 t1 t2 t3 t4 t5 hb5
      go_wp2_with fail
      go_roundg (ll - i)
      case measure => have := HLT.out; omega
      case rel => exact ⟨i + 1, HLT.out, by have := HLT.out; omega, by go_num, HB5.out⟩
    · obtain rfl : ll = i := by omega
      clear hlt hbr
      go_wp2_with fail
      go_ret
      exact retB rfl HBR.out
def FewF (g : Gm) : Prop := g.starts.length ≤ 8 ∧ g.deps.length ≤ 14 ∧ (∀ i, i < g.deps.length → (dg g i).length ≤ 10) ∧ (VG g → SmG g → g.deps.length ≤ 4 ∧ g.starts.length ≤ 3 ∧ g.budget ≤ 2)
def RetFw (g : Gm) (w : World) (e : Ending) (w' : World) : Prop := Below w.heap.size w w' ∧ (e = .returned (.bool false) ∨ e = .returned (.bool true) ∧ FewF g)
set_option maxRecDepth 100000 in
set_option maxHeartbeats 4000000 in
theorem rfew_any (g : Gm) (sa da : Option Addr) (sc dc : Nat) (w : World) (hG : GmAt w g sa da) (hF : GmBig g) : Calls Try.prog 10 #[gmV g sa sc da dc, .int .i64 4, .int .i64 3, .int .i64 2] w (RetFw g w) := by
  have HG := Lib.hid hG
  have hvl := fun wy (hy : Below w.heap.size w wy) => rvalidG_any g sa da sc dc wy (hG.later hy) hF
  have hsm := fun (hv : VG g) wy (hy : Below w.heap.size w wy) => small_any g sa da sc dc wy (hG.later hy) hv
  obtain ⟨n, hn⟩ : ∃ n, n = g.starts.length := ⟨_, rfl⟩
  obtain ⟨bu, hbu⟩ : ∃ n, n = g.budget := ⟨_, rfl⟩
  obtain ⟨nd, hnd⟩ : ∃ n, n = g.deps.length := ⟨_, rfl⟩
  simp only [gmV, ← hn, ← hnd, ← hbu] at hvl hsm ⊢
  have HN := Lib.hid (And.intro hn (And.intro hnd hbu))
  have HVL := Lib.hid hvl
  have HSM := Lib.hid hsm
  clear hG hF hn hbu hnd hvl hsm
  go_enter Try.func10, Try.ntmps10
  go_upto_region 1 with fail
  refine wp_named ?_
  intro w1 hw1
  obtain ⟨hb1, hs1, hg, _⟩ := alloc1 w [.slice sa n sc, .slice da nd dc, .int .i64 bu] _ w1 hw1
  have HB1 := Lib.hid hb1
  have HGX := Lib.hid hg
  have c0 := (hg 0 _ rfl).1
  have c1 := (hg 1 _ rfl).1
  clear hw1 hb1 hs1 hg
  rcases Nat.lt_or_ge 8 n with h8 | h8
  · have e8 : decide ((8 : Int) < (n : Int)) = true := decide_eq_true (by omega)
    go_wp2_with fail
    go_ret
    exact ⟨HB1.out, .inl rfl⟩
  have e8 : decide ((8 : Int) < (n : Int)) = false := decide_eq_false (by omega)
  rcases Nat.lt_or_ge 14 nd with h14 | h14
  · have e14 : decide ((14 : Int) < (nd : Int)) = true := decide_eq_true (by omega)
    go_wp2_with fail
    go_ret
    exact ⟨HB1.out, .inl rfl⟩
  have e14 : decide ((14 : Int) < (nd : Int)) = false := decide_eq_false (by omega)
  go_wp2_with fail
  clear c0 c1 e8 e14
  go_loopg [9] (nd + 1) (fun gk v9 wr => ∃ i : Nat, i ≤ nd ∧ gk + i = nd + 1 ∧ v9 = .int .i64 i ∧ w1 = wr ∧ ∀ j, j < i → (dg g j).length ≤ 10)
  case atStart => exact ⟨0, by omega, by omega, rfl, rfl, fun j h => by omega⟩
  case round =>
    obtain ⟨i, hi, hgi, rfl, rfl, hrow⟩ := hrel
    have HROW := Lib.hid hrow
    clear hrow
    have c0 := (HGX.out 0 _ rfl).1
    have c1 := (HGX.out 1 _ rfl).1
    have c2 := (HGX.out 2 _ rfl).1
    by_cases hlt : i < nd
    · obtain ⟨db, doff, ra, rc, rfl, hr, _⟩ := HG.out.d i (by rw [← HN.out.2.1]; exact hlt)
      have kr := cell_later HB1.out hr
      obtain ⟨m, hm⟩ : ∃ m, m = (g.deps.getD i []).length := ⟨_, rfl⟩
      rw [← hm] at kr
      have i1 : (i : Int) < (nd : Int) := by omega
      have i0 : (0 : Int) ≤ (i : Int) := by omega
      have HM := Lib.hid (show m = (dg g i).length from hm)
      have HLT := Lib.hid hlt
      clear hr hm hlt
      rcases Nat.lt_or_ge 10 m with h10 | h10
      · have e10 : decide ((10 : Int) < (m : Int)) = true := decide_eq_true (by omega)
        go_wp2_with fail
        go_ret
        exact ⟨HB1.out, .inl rfl⟩
      have e10 : decide ((10 : Int) < (m : Int)) = false := decide_eq_false (by omega)
      have HNX := Lib.hid (show ∀ j, j < i + 1 → (dg g j).length ≤ 10 from fun j hj => by
        by_cases hji : j < i
        · exact HROW.out j hji
        · obtain rfl : j = i := by omega
          rw [← HM.out]
          exact h10)
      go_wp2_with fail
      go_roundg (nd - i)
      case measure => have := HLT.out; omega
      case rel => exact ⟨i + 1, HLT.out, by have := HLT.out; omega, by go_num, rfl, HNX.out⟩
    · obtain rfl : nd = i := by omega
      clear hlt hi hgi
      go_wp2_with fail
      refine Calls.mono (HVL.out w1 HB1.out) ?_
      rintro e w2 ⟨rfl, hb2⟩
      have HB2 := Lib.hid (HB1.out.trans (hb2.mono HB1.out.size))
      have HGX2 := Lib.hid (HGX.out.later hb2)
      have c0 := (HGX2.out 0 _ rfl).1
      have c1 := (HGX2.out 1 _ rfl).1
      have c2 := (HGX2.out 2 _ rfl).1
      clear hb2
      have HR0 := Lib.hid (show (VG g → SmG g → g.deps.length ≤ 4 ∧ g.starts.length ≤ 3 ∧ g.budget ≤ 2) → FewF g from fun h => ⟨by rw [← HN.out.1]; exact h8, by rw [← HN.out.2.1]; exact h14, fun i hi => HROW.out i (by rw [HN.out.2.1]; exact hi), h⟩)
      rcases Classical.em (¬ VG g) with hv | hv
      · have HE := Lib.hid (HR0.out fun h => absurd h hv)
        rw [vgB_false hv]
        clear hv
        go_wp2_with fail
        go_ret
        exact ⟨HB2.out, .inr ⟨rfl, HE.out⟩⟩
      replace hv : VG g := Classical.not_not.1 hv
      have HV := Lib.hid hv
      rw [vgB_true hv]
      clear hv
      go_wp2_with fail
      refine Calls.mono (HSM.out HV.out w2 HB2.out) ?_
      rintro e w3 ⟨rfl, hb3⟩
      have HB3 := Lib.hid (HB2.out.trans (hb3.mono HB2.out.size))
      have HGX3 := Lib.hid (HGX2.out.later hb3)
      clear c0 c1 c2
      have c0 := (HGX3.out 0 _ rfl).1
      have c1 := (HGX3.out 1 _ rfl).1
      have c2 := (HGX3.out 2 _ rfl).1
      clear hb3
      cases hsb : smB g
      · have HE := Lib.hid (HR0.out fun _ h => by rw [smB_iff.2 h] at hsb; cases hsb)
        clear hsb
        go_wp2_with fail
        go_ret
        exact ⟨HB3.out, .inr ⟨rfl, HE.out⟩⟩
      clear hsb
      by_cases h4 : nd ≤ 4
      · have e4 : decide ((nd : Int) ≤ 4) = true := decide_eq_true (by omega)
        by_cases h3 : n ≤ 3
        · have e3 : decide ((n : Int) ≤ 3) = true := decide_eq_true (by omega)
          by_cases h2 : bu ≤ 2
          · have e2 : decide (bu ≤ 2) = true := decide_eq_true h2
            have HE := Lib.hid (HR0.out fun _ _ => ⟨by rw [← HN.out.2.1]; exact h4, by rw [← HN.out.1]; exact h3, by rw [← HN.out.2.2]; exact h2⟩)
            go_wp2_with fail
            go_ret
            exact ⟨HB3.out, .inr ⟨rfl, HE.out⟩⟩
          · have e2 : decide (bu ≤ 2) = false := decide_eq_false h2
            go_wp2_with fail
            go_ret
            exact ⟨HB3.out, .inl rfl⟩
        · have e3 : decide ((n : Int) ≤ 3) = false := decide_eq_false (by omega)
          go_wp2_with fail
          go_ret
          exact ⟨HB3.out, .inl rfl⟩
      · have e4 : decide ((nd : Int) ≤ 4) = false := decide_eq_false (by omega)
        go_wp2_with fail
        go_ret
        exact ⟨HB3.out, .inl rfl⟩
end
end Go.Proofs.Ytlkknoooeldomaa

