



/- ShopWaits: for every tasks and shop with a plan, task and hour before its start: a task of its After has not ended at this hour, or as many tasks with its skill run as there are people, or it needs a bay, and all of them are taken: the call of the law returns true, for every input. -/
import Derived.Test.YtoblmecgnpoogaaLift
import Derived.Test.YtoblmecgnpoogaaShpOpen
import Derived.Test.YtoblmecgnpoogaaShpX
import Derived.Test.YtoblmecgnpoogaaShpY
import Derived.Test.YtoblmecgnpoogaaShpBusy
namespace Go.Proofs.Ytoblmecgnpoogaa
open Go.ChangeShapes Go.WideShapes Go.ChangeAt Go.RowKit Go.Joins

namespace ShopWaits
set_option maxRecDepth 100000 in
set_option maxHeartbeats 4000000 in
theorem walk (w : World) (a : Option Addr) (cap : Nat) (l : List Tk) (hT : Tasks w a l) (hl : l.length < 9223372036854775808) (hS : ∀ i, i < l.length → (tg l i).after.length < 9223372036854775808) (s : Sh) (sa : Option Addr) (sc : Nat) (hI : Ints w sa s.staff) (hs : s.staff.length < 9223372036854775808)
    (at' : Int) (hat : 0 ≤ at' ∧ at' < 256) (raw : Int) (hraw : 0 ≤ raw ∧ raw < 65536) :
    Calls Try.prog 5 #[.slice a l.length cap, shV s sa sc, .int .u8 at', .int .u16 raw] w (RetB (.bool true) w) := by
  have HAT := Lib.hid hat
  have HRAW := Lib.hid hraw
  clear hat hraw
  have hS40 : l.length ≤ 40 → ∀ i, i < l.length → (tg l i).after.length < 9223372036854775808 := fun _ => hS
  obtain ⟨n, hn⟩ : ∃ n, n = l.length := ⟨_, rfl⟩
  obtain ⟨q, hq⟩ : ∃ n, n = s.staff.length := ⟨_, rfl⟩
  obtain ⟨bs, hbs⟩ : ∃ n, n = s.bays := ⟨_, rfl⟩
  have HF := Lib.hid (show ∀ wy, Below w.heap.size w wy → Calls Try.prog 11 #[.slice a n cap] wy (RetAS wy) from fun wy hy => by
    rw [hn]
    exact few_any l a cap wy (hT.later hy) hl hS40)
  have HP := Lib.hid (show ∀ wy, Below w.heap.size w wy → q ≤ 20 → Calls Try.prog 12 #[.slice a n cap, .agg #[.slice sa q sc, .int .i64 bs]] wy (PlanTo l s wy) from fun wy hy h20 => by
    rw [hn, hq, hbs]
    exact plan_any l a cap s sa sc wy (hT.later hy) hl hS40 (hI.later hy) (by omega))
  have HC := Lib.hid (show ∀ wy, Below w.heap.size w wy → q ≤ 20 → ∀ (st : List Int) (ia : Option Addr) (ic m : Nat), Ints wy ia st → m = st.length → m < 9223372036854775807 → Calls Try.prog 17 #[.slice a n cap, .agg #[.slice sa q sc, .int .i64 bs], .slice ia m ic] wy (RetB (.bool (chkB l s st)) wy) from fun wy hy h20 st ia ic m hJ hm hs2 => by
    subst hm
    rw [hn, hq, hbs]
    exact check_any l a cap s sa sc st ia ic wy (hT.later hy) hl hS40 (hI.later hy) (by omega) hJ hs2)
  have HT := Lib.hid hT
  have HI := Lib.hid hI
  have HN := Lib.hid hn
  have HQ := Lib.hid hq
  have HBS := Lib.hid hbs
  have HS := Lib.hid hS40
  have HL := Lib.hid hl
  unfold shV
  rw [← hn, ← hq, ← hbs]
  clear hT hl hS hS40 hI hs hn hq hbs
  go_enter Try.func5, Try.ntmps5
  go_upto_region 1 with fail
  obtain ⟨wX, P, hP, hbX, hBX, hwX⟩ : ∃ wX P, P = w.heap.size ∧ Below w.heap.size w wX ∧ BoxAt wX P [.slice sa q sc, .int .i64 bs] ∧ wX = w.alloc (.cells #[.slice sa q sc, .int .i64 bs] 25) := ⟨_, _, rfl, (Below.refl _ _).alloc (Nat.le_refl _) _, BoxAt.new w _ _, rfl⟩
  rw [← hwX, ← hP]
  have HBX := Lib.hid hbX
  have HX := Lib.hid hBX
  clear hP hbX hBX hwX
  go_wp2_with fail
  refine Calls.mono (head_any _) ?_
  rintro e w1 ⟨rfl, hb1⟩
  have HB1 := Lib.hid (HBX.out.trans (hb1.mono HBX.out.size))
  have HX1 := Lib.hid (HX.out.later hb1)
  have c0 := (HX1.out 0 _ rfl).1
  have c1 := (HX1.out 1 _ rfl).1
  clear hb1 HBX HX
  go_wp2_with fail
  refine Calls.mono (HF.out w1 HB1.out) ?_
  rintro e w2 ⟨b, rfl, rfl⟩
  cases b
  case false =>
    go_wp2_with fail
    go_ret
    exact retB rfl HB1.out
  by_cases hq20 : (20 : Int) < (q : Int)
  · go_wp2_with fail
    go_ret
    exact retB rfl HB1.out
  have HQ20 := Lib.hid (show q ≤ 20 from by omega)
  by_cases hn0 : n = 0
  · have hz : ((n : Int) == 0) = true := by simp [hn0]
    clear hn0
    go_wp2_with fail
    go_ret
    exact retB rfl HB1.out
  have hz : ((n : Int) == 0) = false := beq_eq_false_iff_ne.2 (by omega)
  go_wp2_with fail
  refine Calls.mono (HP.out w1 HB1.out HQ20.out) ?_
  rintro e w2 ⟨st, m, hr, ia, ic, rfl, hJ, hb2⟩
  have HB2 := Lib.hid (HB1.out.trans (hb2.mono HB1.out.size))
  have HX2 := Lib.hid (HX1.out.later hb2)
  have HJ := Lib.hid hJ
  clear hb2 hJ c0 c1
  have hwa : IntKind.i64.wrap at' = at' := IntWalk.i64_in _ (by have := HAT.out; omega)
  obtain ⟨i, hi, him⟩ : ∃ i : Nat, at'.tmod (n : Int) = (i : Int) ∧ i < n := by
    have h1 := Int.tmod_nonneg (n : Int) HAT.out.1
    have h2 := Int.tmod_lt_of_pos at' (show (0 : Int) < (n : Int) by omega)
    exact ⟨(at'.tmod (n : Int)).toNat, by omega, by omega⟩
  have hnz : (n : Int) ≠ 0 := by omega
  have hwi : IntKind.i64.wrap (i : Int) = (i : Int) := IntWalk.i64_in _ (by have := HL.out; have := HN.out; omega)
  rcases hr with ⟨rfl, rfl, _⟩ | ⟨rfl, rfl, _⟩ | ⟨rfl, rfl, _⟩ | ⟨rfl, hv, hs, ho, _, g⟩
  · go_wp2_with fail
    go_ret
    exact retB rfl HB2.out
  · go_wp2_with fail
    go_ret
    exact retB rfl HB2.out
  · go_wp2_with fail
    go_ret
    exact retB rfl HB2.out
  have hck := g.chk hv hs
  have hlen := g.len
  have h40 : n ≤ 40 := by rw [HN.out]; exact hv.1
  have hiL : i < l.length := by rw [← HN.out]; exact him
  have hiS : i < st.length := by rw [hlen]; exact hiL
  have htk := hv.2 i hiL
  have hsk := g.skill hv hiL
  have hpi := g.pos i hiL
  have HHO := Lib.hid hck.2.2.1
  have HVT := Lib.hid hv
  have HIL := Lib.hid hiL
  have HLN := Lib.hid hlen
  have HWT := Lib.hid (fun h (h0 : 0 ≤ h) (hlt : h < ig st i) ha => g.waits hv hs hiL (h := h) h0 hlt ha)
  obtain ⟨tb, tf, aa, ac, rfl, b0, b1, b2, b3, hAI⟩ := (HT.out.later HB2.out) i hiL
  obtain ⟨jb, jo, rfl, fi⟩ := HJ.out.fam (by omega)
  have ci := fi i hiS
  obtain ⟨t, ht⟩ : ∃ t, t = tg l i := ⟨_, rfl⟩
  obtain ⟨x, hx⟩ : ∃ x, x = ig st i := ⟨_, rfl⟩
  rw [← ht] at b0 b1 b2 b3 hAI htk hsk HWT
  rw [← hx] at ci hpi HWT
  have HTE := Lib.hid ht
  have HAI := Lib.hid hAI
  have HTK := Lib.hid htk
  have HSK := Lib.hid hsk
  obtain ⟨u, hu⟩ : ∃ u, u = t.skill := ⟨_, rfl⟩
  obtain ⟨sk, hske⟩ : ∃ k : Nat, u = (k : Int) := ⟨t.skill.toNat, by have := htk.2.2.1; omega⟩
  have hskq : sk < q := by rw [HQ.out]; rw [← hu, hske] at hsk; simpa using hsk
  have HSKE := Lib.hid hske
  have HSKQ := Lib.hid hskq
  have HUE := Lib.hid hu
  rw [← hu] at b1
  have n1 : (i : Int) < (n : Int) := by omega
  have n0 : (0 : Int) ≤ (i : Int) := by omega
  have s2 : ¬ ((q : Int) ≤ u) := by omega
  have s3 : ¬ (u < 0) := by omega
  have x0 : 0 ≤ x := hpi.1
  have x1 : ¬ (x < 0) := by omega
  have x4 : x ≤ 40000 := hpi.2
  have p0 := (HX2.out 0 _ rfl).1
  have p1 := (HX2.out 1 _ rfl).1
  have HPB := Lib.hid (show P < w2.heap.size from World.block_lt_of_cell? _ _ p0)
  have hS2 : ∀ wy : World, Below w2.heap.size w2 wy → wy.cell? ⟨tb, tf + i * 4 + 1, none⟩ = some (.int .i64 u) ∧ wy.cell? ⟨tb, tf + i * 4 + 2, none⟩ = some (.bool t.bay) ∧ wy.cell? ⟨tb, tf + i * 4 + 3, none⟩ = some (.slice aa t.after.length ac) ∧ wy.cell? ⟨jb, jo + i, none⟩ = some (.int .i64 x) ∧ wy.cell? ⟨P, 0, none⟩ = some (.slice sa q sc) ∧ wy.cell? ⟨P, 1, none⟩ = some (.int .i64 bs) := fun wy hy => ⟨cell_later hy b1, cell_later hy b2, cell_later hy b3, cell_later hy ci, cell_later hy p0, cell_later hy p1⟩
  have HS2 := Lib.hid hS2
  have hll : st.length = n := by rw [hlen, HN.out]
  rw [hll]
  clear hck hlen hv hs ho g htk hsk hpi ht hx hske hu hAI b0 b1 b2 b3 fi ci hS2 hll hskq hiL hiS HC HP HF p0 p1 hn0 him
  go_upto_region 8 with fail
  have hS := HS2.out
  have t2 : ¬ ((q : Int) ≤ u) := by omega
  have t3 : ¬ (u < 0) := by omega
  have t4 : ¬ (x < 0) := by omega
  (refine wp_flow_s [] [] (by kernel_rfl) (by kernel_rfl) (by kernel_rfl) ?_; repeat (first | ((with_reducible refine Flow.pure hS StayG.nil (v := ?_) ?_ ?_ ?_ ?_); rotate_left 1; (focus kernel_rfl); (focus (intro _; rfl)); (focus (intro β wx hSw; (try dsimp only at hSw); go_simp; (try with_reducible rfl); done)); (try simp only [Act.put, List.setIfInBounds_toArray, List.set_cons_zero, List.set_cons_succ, Nat.reduceAdd])) | ((with_reducible refine Flow.skip StayG.nil ?_ ?_ ?_); (focus kernel_rfl); (focus (intro _; rfl)); (try simp only [Act.put, List.setIfInBounds_toArray, List.set_cons_zero, List.set_cons_succ, Nat.reduceAdd]))))
  ((with_reducible refine Flow.stop ?_); dsimp only; intro β w9 hI9)
  have HB9 := Lib.hid hI9.below
  obtain ⟨d1, d2, d3, d4, d5, d6⟩ := HS2.out w9 HB9.out
  clear hS hI9
  by_cases hx0 : x = 0
  · have hxz : (x == 0) = true := by simp [hx0]
    clear hx0
    go_wp2_with fail
    go_ret
    exact retB rfl (HB2.out.trans (HB9.out.mono HB2.out.size))
  have hxz : (x == 0) = false := beq_eq_false_iff_ne.2 hx0
  have hwr : IntKind.i64.wrap raw = raw := IntWalk.i64_in _ (by have := HRAW.out; omega)
  obtain ⟨hh, hhe⟩ : ∃ hh, raw.tmod x = hh := ⟨_, rfl⟩
  have hh0 : 0 ≤ hh ∧ hh < x := by
    have h1 := Int.tmod_nonneg x HRAW.out.1
    have h2 := Int.tmod_lt_of_pos raw (show 0 < x by omega)
    omega
  have hwh : IntKind.i64.wrap hh = hh := IntWalk.i64_in _ (by omega)
  have HH0 := Lib.hid hh0
  clear hh0
  go_upto_region 14 with fail
  have HAL := Lib.hid (show t.after.length ≤ 40 from by rw [HTE.out]; exact after_len HVT.out HIL.out)
  clear d1 d2 d3 d4 d5 d6 hwr hwh hwa hwi hxz t2 t3 t4
  go_loopg [14] (t.after.length + 1) (fun gk v14 wr => ∃ k : Nat, k ≤ t.after.length ∧ gk + k = t.after.length + 1 ∧ v14 = .int .i64 k ∧ Below w2.heap.size w2 wr ∧ ∀ r, r < k → endAt l st (ig t.after r).toNat ≤ hh)
  case atStart => exact ⟨0, by omega, by omega, rfl, HB9.out, fun r hr => absurd hr (by omega)⟩
  case round =>
    obtain ⟨k, hk, hgk, rfl, hbr, hall⟩ := hrel
    have HBR := Lib.hid hbr
    have HALL := Lib.hid hall
    have e3 := (HS2.out wr hbr).2.2.1
    clear hall
    by_cases hlt : k < t.after.length
    · obtain ⟨j, hj1, hj2⟩ := good_mem HTK.out.2.2.2.2 hlt
      have hjL := hj2
      rw [← HN.out] at hj2
      obtain ⟨eb, eo, rfl, fe⟩ := (HAI.out.later hbr).fam (by omega)
      have ce := fe k hlt
      obtain ⟨z, hz⟩ : ∃ z, z = ig t.after k := ⟨_, rfl⟩
      rw [← hz] at ce hj1
      have HZ := Lib.hid hj1
      have HZE := Lib.hid hz
      have HJN := Lib.hid hj2
      have k1 : (k : Int) < (t.after.length : Int) := by omega
      have k0 : (0 : Int) ≤ (k : Int) := by omega
      obtain ⟨_, _, _, _, e5, g0, _, _, _, _⟩ := (HT.out.later (HB2.out.trans (hbr.mono HB2.out.size))) j hjL
      simp only [Option.some.injEq, Addr.mk.injEq, and_true] at e5
      obtain ⟨rfl, rfl⟩ := e5
      obtain ⟨_, _, e6, f6⟩ := (HJ.out.later hbr).fam (by rw [HLN.out]; omega)
      simp only [Option.some.injEq, Addr.mk.injEq, and_true] at e6
      obtain ⟨rfl, rfl⟩ := e6
      have g1 := f6 j (by rw [HLN.out]; exact hjL)
      have htj := HVT.out.2 j hjL
      have hpj := HHO.out.2 _ (ig_mem (l := st) (i := j) (by rw [HLN.out]; exact hjL))
      have hen : endAt l st j = ig st j + (tg l j).hours := rfl
      obtain ⟨xj, hxj⟩ : ∃ x, x = ig st j := ⟨_, rfl⟩
      obtain ⟨yj, hyj⟩ : ∃ x, x = (tg l j).hours := ⟨_, rfl⟩
      have hy1 := htj.1
      have hy2 := htj.2.1
      rw [← hxj, ← hyj] at hen
      rw [← hxj] at g1 hpj
      rw [← hyj] at g0 hy1 hy2
      have hwj : IntKind.i64.wrap (xj + yj) = xj + yj := IntWalk.i64_in _ (by omega)
      have HEN := Lib.hid hen
      have hS3 : ∀ wy : World, Below wr.heap.size wr wy → wy.cell? ⟨tb, tf + j * 4, none⟩ = some (.int .i64 yj) ∧ wy.cell? ⟨jb, jo + j, none⟩ = some (.int .i64 xj) := fun wy hy => ⟨cell_later hy g0, cell_later hy g1⟩
      have HS3 := Lib.hid hS3
      clear fe hz hj1 hj2 hjL f6 htj hpj hxj hyj hy1 hy2 hen hS3 g0 g1 hbr
      go_upto_region 17 with fail
      have t2 : ¬ ((n : Int) ≤ z) := by have := HZ.out; have := HJN.out; omega
      have t3 : ¬ (z < 0) := by have := HZ.out; omega
      clear ce e3
      go_upto_region 19 with fail
      clear t2 t3
      obtain rfl : z = (j : Int) := HZ.out
      have j1 : (j : Int) < (n : Int) := by have := HJN.out; omega
      have j0 : (0 : Int) ≤ (j : Int) := by omega
      have hS := HS3.out
      by_cases hgt : hh < xj + yj
      · (refine wp_flow_s [] [] (by kernel_rfl) (by kernel_rfl) (by kernel_rfl) ?_; repeat (first | ((with_reducible refine Flow.pure hS StayG.nil (v := ?_) ?_ ?_ ?_ ?_); rotate_left 1; (focus kernel_rfl); (focus (intro _; rfl)); (focus (intro β wx hSw; (try dsimp only at hSw); go_simp; (try with_reducible rfl); done)); (try simp only [Act.put, List.setIfInBounds_toArray, List.set_cons_zero, List.set_cons_succ, Nat.reduceAdd])) | ((with_reducible refine Flow.skip StayG.nil ?_ ?_ ?_); (focus kernel_rfl); (focus (intro _; rfl)); (try simp only [Act.put, List.setIfInBounds_toArray, List.set_cons_zero, List.set_cons_succ, Nat.reduceAdd]))))
        ((with_reducible refine Flow.stop ?_); dsimp only; intro β w10 hI10)
        have HB10 := Lib.hid (HBR.out.trans (hI10.below.mono HBR.out.size))
        clear hS hI10 hwj
        go_wp2_with fail
        go_ret
        exact retB rfl (HB2.out.trans (HB10.out.mono HB2.out.size))
      · have HEND := Lib.hid (show endAt l st (ig t.after k).toNat ≤ hh from by rw [← HZE.out, Int.toNat_natCast, HEN.out]; omega)
        (refine wp_flow_s [] [] (by kernel_rfl) (by kernel_rfl) (by kernel_rfl) ?_; repeat (first | ((with_reducible refine Flow.pure hS StayG.nil (v := ?_) ?_ ?_ ?_ ?_); rotate_left 1; (focus kernel_rfl); (focus (intro _; rfl)); (focus (intro β wx hSw; (try dsimp only at hSw); go_simp; (try with_reducible rfl); done)); (try simp only [Act.put, List.setIfInBounds_toArray, List.set_cons_zero, List.set_cons_succ, Nat.reduceAdd])) | ((with_reducible refine Flow.skip StayG.nil ?_ ?_ ?_); (focus kernel_rfl); (focus (intro _; rfl)); (try simp only [Act.put, List.setIfInBounds_toArray, List.set_cons_zero, List.set_cons_succ, Nat.reduceAdd]))))
        ((with_reducible refine Flow.stop ?_); dsimp only; intro β w10 hI10)
        have HB10 := Lib.hid (HBR.out.trans (hI10.below.mono HBR.out.size))
        clear hS hI10 hwj
        have hal := HAL.out
        go_wp2_with fail
        go_roundg (gk - 1)
        case measure => omega
        case rel =>
         exact ⟨k + 1, by omega, by omega, by go_num, HB10.out, fun r hr => by
          rcases Nat.lt_succ_iff_lt_or_eq.1 hr with h | h
          · exact HALL.out r h
          · subst h; exact HEND.out⟩
    · obtain rfl : k = t.after.length := by omega
      have hwt := HWT.out hh HH0.out.1 HH0.out.2 (fun b hb => by
        obtain ⟨r, hr, e⟩ := List.getElem_of_mem hb
        have := HALL.out r hr
        rw [ig_lt hr, e] at this
        exact this)
      have hbz := busy_any l (some ⟨tb, tf, none⟩) cap st (some ⟨jb, jo, none⟩) ic i hh wr (HT.out.later (HB2.out.trans (hbr.mono HB2.out.size))) HVT.out (HJ.out.later hbr) HHO.out HIL.out
      obtain ⟨p, hp⟩ : ∃ p, p = cntP (oS l st i hh) l.length := ⟨_, rfl⟩
      obtain ⟨pb, hpb⟩ : ∃ p, p = cntP (oB l st i hh) l.length := ⟨_, rfl⟩
      obtain ⟨v, hv⟩ : ∃ v, v = ig s.staff sk := ⟨_, rfl⟩
      have hwt2 : v ≤ (p : Int) ∨ (t.bay = true ∧ bs ≤ (pb : Int)) := by
        rw [hv, hp, hpb, HBS.out]
        have hst : t.skill.toNat = sk := by rw [← HUE.out, HSKE.out]; rfl
        rw [hst] at hwt
        have e1 : cntP (fun k => (!decide (k = i) && runs l st hh k) && decide ((tg l k).skill = t.skill)) l.length = cntP (oS l st i hh) l.length := by rw [HTE.out]; rfl
        rw [e1] at hwt
        exact hwt
      rw [← hp, ← hpb, HLN.out, ← HN.out] at hbz
      have HBZ := Lib.hid hbz
      obtain ⟨vb, vo, rfl, fv⟩ := (HI.out.later (HB2.out.trans (hbr.mono HB2.out.size))).fam (by have := HSKQ.out; have := HQ.out; omega)
      have cv := fv sk (by rw [← HQ.out]; exact HSKQ.out)
      rw [← hv] at cv
      obtain ⟨q1, q2, q3, q4, q5, q6⟩ := HS2.out wr hbr
      have hS4 : ∀ wy : World, Below wr.heap.size wr wy → wy.cell? ⟨tb, tf + i * 4 + 1, none⟩ = some (.int .i64 sk) ∧ wy.cell? ⟨tb, tf + i * 4 + 2, none⟩ = some (.bool t.bay) ∧ wy.cell? ⟨P, 0, none⟩ = some (.slice (some ⟨vb, vo, none⟩) q sc) ∧ wy.cell? ⟨P, 1, none⟩ = some (.int .i64 bs) ∧ wy.cell? ⟨vb, vo + sk, none⟩ = some (.int .i64 v) := fun wy hy => ⟨by rw [← HSKE.out]; exact cell_later hy q1, cell_later hy q2, cell_later hy q5, cell_later hy q6, cell_later hy cv⟩
      have HS4 := Lib.hid hS4
      have HWT2 := Lib.hid hwt2
      clear hwt hwt2 hbz hp hpb hv fv cv q1 q2 q3 q4 q5 q6 hS4 HWT HALL hlt
      go_wp2_with fail
      refine Calls.mono HBZ.out ?_
      rintro e w11 ⟨rfl, hb11⟩
      have HB11 := Lib.hid (HBR.out.trans (hb11.mono HBR.out.size))
      have hS5 : ∀ wy : World, Below w11.heap.size w11 wy → _ := fun wy hy => HS4.out wy (hb11.trans (hy.mono hb11.size))
      have HS5 := Lib.hid hS5
      clear hS5 hb11 hbr e3
      go_upto_region 22 with fail
      have hS := HS5.out
      have k1 : (sk : Int) < (q : Int) := by have := HSKQ.out; omega
      have k0 : (0 : Int) ≤ (sk : Int) := by omega
      obtain ⟨bay, hbay⟩ : ∃ b, b = t.bay := ⟨_, rfl⟩
      rw [← hbay] at hS HWT2
      clear hbay
      by_cases hvp : v ≤ (p : Int)
      · (refine wp_flow_s [] [] (by kernel_rfl) (by kernel_rfl) (by kernel_rfl) ?_; repeat (first | ((with_reducible refine Flow.pure hS StayG.nil (v := ?_) ?_ ?_ ?_ ?_); rotate_left 1; (focus kernel_rfl); (focus (intro _; rfl)); (focus (intro β wx hSw; (try dsimp only at hSw); go_simp; (try with_reducible rfl); done)); (try simp only [Act.put, List.setIfInBounds_toArray, List.set_cons_zero, List.set_cons_succ, Nat.reduceAdd])) | ((with_reducible refine Flow.skip StayG.nil ?_ ?_ ?_); (focus kernel_rfl); (focus (intro _; rfl)); (try simp only [Act.put, List.setIfInBounds_toArray, List.set_cons_zero, List.set_cons_succ, Nat.reduceAdd]))))
        ((with_reducible refine Flow.stop ?_); dsimp only; intro β w12 hI12)
        have HB12 := Lib.hid (HB11.out.trans (hI12.below.mono HB11.out.size))
        clear hS hI12
        go_wp2_with fail
        go_ret
        exact retB rfl (HB2.out.trans (HB12.out.mono HB2.out.size))
      · obtain ⟨rfl, hbp⟩ := HWT2.out.resolve_left hvp
        (refine wp_flow_s [] [] (by kernel_rfl) (by kernel_rfl) (by kernel_rfl) ?_; repeat (first | ((with_reducible refine Flow.pure hS StayG.nil (v := ?_) ?_ ?_ ?_ ?_); rotate_left 1; (focus kernel_rfl); (focus (intro _; rfl)); (focus (intro β wx hSw; (try dsimp only at hSw); go_simp; (try with_reducible rfl); done)); (try simp only [Act.put, List.setIfInBounds_toArray, List.set_cons_zero, List.set_cons_succ, Nat.reduceAdd])) | ((with_reducible refine Flow.skip StayG.nil ?_ ?_ ?_); (focus kernel_rfl); (focus (intro _; rfl)); (try simp only [Act.put, List.setIfInBounds_toArray, List.set_cons_zero, List.set_cons_succ, Nat.reduceAdd]))))
        ((with_reducible refine Flow.stop ?_); dsimp only; intro β w12 hI12)
        have HB12 := Lib.hid (HB11.out.trans (hI12.below.mono HB11.out.size))
        clear hS hI12
        go_wp2_with fail
        go_ret
        exact retB rfl (HB2.out.trans (HB12.out.mono HB2.out.size))
end ShopWaits
namespace ShopWaits
set_option maxRecDepth 100000 in
theorem entry (H : Type) (enc : TypeId × Value → H) (W : World) (base : Nat) (args : Array Value) (ds : List (DataW H)) (p : List MemPlace)
    (hval : ∀ (j : Nat) t v, Try.f5.params[j]? = some t → args[j]? = some v → Value.okWide Try.prog W .any base t v)
    (hA : DataW.TrodAll enc Try.prog W 0 (fun _ => true) true Try.f5.params.toList args.toList ds p) :
    Calls Try.prog 5 args W (RetB (.bool true) W) := by
  rw [Try.params5] at hA hval
  obtain ⟨v0, vs0, d0, ds0, p0, q0, hargs, rfl, rfl, h0, r0⟩ := trodAll_cons hA
  obtain ⟨v1, vs1, d1, ds1, p1, q1, rfl, rfl, rfl, h1, r1⟩ := trodAll_cons r0
  obtain ⟨v2, vs2, d2, ds2, p2, q2, rfl, rfl, rfl, h2, r2⟩ := trodAll_cons r1
  obtain ⟨v3, vs3, d3, ds3, p3, q3, rfl, rfl, rfl, h3, r3⟩ := trodAll_cons r2
  obtain ⟨rfl, rfl, rfl⟩ := trodAll_nil r3
  obtain rfl : args = #[v0, v1, v2, v3] := by cases args; simp_all
  obtain ⟨la, lc, l, rfl, lT, ll, ls⟩ := open_tasks (hval 0 22 v0 rfl rfl) h0
  obtain ⟨s, sa, sc, rfl, sI, sl⟩ := open_shop (hval 1 25 v1 rfl rfl) h1
  obtain ⟨x, rfl, xo⟩ := open_u8 (hval 2 5 v2 rfl rfl) h2
  obtain ⟨r, rfl, ro⟩ := open_u16 (hval 3 36 v3 rfl rfl) h3
  exact walk W la lc l lT ll ls s sa sc sI sl x xo r ro
end ShopWaits
/-! The step from the walk to the row of ShopWaits. -/
namespace ShopWaits
set_option maxRecDepth 100000 in
theorem lifted (os : Os) (started : os.Started) (H : Type) (enc : TypeId × Value → H) :
    ReturnsInHanded {} Try.checked os 5 .any (Rows.shopWaitsSpec.pre6 enc Try.prog Try.f5 Rows.shopWaitsRow.domain false) (Rows.shopWaitsSpec.post enc Try.prog Try.f5 false true false false) := by
  refine returnsInHanded_of_change (C := Try.checked) own started (by kernel_rfl) Try.func5
    (ChangeSpec.witness6 (enc := enc) (C := Try.checked) false ⟨#[], #[.slice none 0 0, .agg #[.slice none 0 0, .int .i64 0], .int .u8 0, .int .u16 0], []⟩ 8 (by kernel_rfl) (by kernel_rfl) (by kernel_rfl) (by kernel_rfl)) ?_
  intro W base args ds gs before hval0 hW hcnd _
  have hval : ∀ (j : Nat) t v, Try.f5.params[j]? = some t → args[j]? = some v → Value.okWide Try.prog W .any base t v := hval0
  have hW' := hW
  obtain ⟨p, q, hA0, hV, rfl, hfz, hnd⟩ := hW
  have hA : DataW.TrodAll enc Try.prog W 0 (fun _ => true) true Try.f5.params.toList args.toList ds p := hA0
  obtain ⟨rfl, rfl⟩ := trodVars_none hV
  have hlen := trodAll_len _ _ _ _ hA
  obtain ⟨d0, d1, d2, d3, rfl⟩ : ∃ d0 d1 d2 d3, ds = [d0, d1, d2, d3] := by
    rw [Try.params5] at hlen
    exact list4 hlen
  refine (entry H enc W base args [d0, d1, d2, d3] p hval hA).mono fun e W' ⟨he, bel⟩ => ?_
  subst he
  exact ⟨_, rfl, _, _, _, [], _, [], hW', trodAll_mk1 (shut_bool Try.underlying4 _), readback laidOut _ _ _ _ (by rw [Try.params5]; exact of_decide_eq_true (by kernel_rfl)) hA bel, rfl, bel.frame _, fun h => by cases h⟩

theorem over : Rows.shopWaitsRow.holds Try.pinned (OpenSpec.ofChange Rows.shopWaitsSpec) :=
  OpenClaim.holds_of_wide 5 Try.f5 rfl rfl rfl rfl rfl rfl rfl ⟨rfl, rfl, rfl, rfl, rfl⟩ rfl rfl rfl rfl rfl (by kernel_rfl) Try.func5 (by kernel_rfl)
    (of_decide_eq_true (by kernel_rfl)) (by unfold Func.isWrapper; first | (rw [if_pos (by decide +kernel)]; kernel_rfl) | (rw [if_neg (by decide +kernel)]; exact ⟨rfl, rfl⟩))
    (fun os started H enc _ => lifted os started H enc)

/-- THE STATEMENT -/
theorem proved : Rows.ShopWaitsSaid := over
end ShopWaits
#print axioms ShopWaits.proved
end Go.Proofs.Ytoblmecgnpoogaa
