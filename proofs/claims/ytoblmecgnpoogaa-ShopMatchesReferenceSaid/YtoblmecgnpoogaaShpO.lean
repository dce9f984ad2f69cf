


/- Package shop: Plan. -/
import Derived.Test.YtoblmecgnpoogaaShpM
import Derived.Test.YtoblmecgnpoogaaShpN
import Derived.Test.YtoblmecgnpoogaaShpT
import Derived.Deep.CutRange
namespace Go.Proofs.Ytoblmecgnpoogaa
open Go.RowKit

theorem OwnI.mono {w : World} {B B' : Nat} {v : Value} {l : List Int} (h : OwnI w B v l) (hB : B' ≤ B) : OwnI w B' v l := by
  obtain ⟨h1, h2⟩ := h
  refine ⟨h1, ?_⟩
  rcases h2 with h2 | ⟨g1, cap, cur, hv, hg, rest⟩
  · exact .inl h2
  · exact .inr ⟨g1, cap, cur, hv, by omega, rest⟩
/-- what Plan answers -/
def PlanR (l : List Tk) (s : Sh) (st : List Int) (n : Int) : Prop :=
  (n = 1 ∧ st = [] ∧ ¬ (VT l ∧ VS s)) ∨ (n = 24 ∧ st = [] ∧ VT l ∧ VS s ∧ (orderOf l).length < l.length) ∨ (n = 2 ∧ st = [] ∧ VT l ∧ VS s ∧ ¬ (orderOf l).length < l.length ∧ (l.any fun t => !canB s t) = true) ∨
    (n = 0 ∧ VT l ∧ VS s ∧ ¬ (orderOf l).length < l.length ∧ (l.any fun t => !canB s t) = false ∧ Greedy l s st)
def PlanTo (l : List Tk) (s : Sh) (w : World) (e : Ending) (w' : World) : Prop := ∃ st n, PlanR l s st n ∧ RetIE st n w e w'
set_option maxRecDepth 100000 in
set_option maxHeartbeats 4000000 in
theorem plan_any (l : List Tk) (a : Option Addr) (cap : Nat) (s : Sh) (sa : Option Addr) (sc : Nat) (w : World) (hT : Tasks w a l) (hl : l.length < 9223372036854775808) (hS : l.length ≤ 40 → ∀ i, i < l.length → (tg l i).after.length < 9223372036854775808) (hI : Ints w sa s.staff) (hs : s.staff.length < 9223372036854775807) :
    Calls Try.prog 12 #[.slice a l.length cap, shV s sa sc] w (PlanTo l s w) := by
  have hmf : ∀ (fn : Fn) (first cap : Array Value) (w : World), (Instr.makeFunc fn first cap).run Try.prog w = .ok (.func fn first cap) w := fun _ _ _ _ => rfl
  obtain ⟨v, hv⟩ : ∃ v, v = vsB l s := ⟨_, rfl⟩
  obtain ⟨n, hn⟩ : ∃ n, n = l.length := ⟨_, rfl⟩
  obtain ⟨q, hq⟩ : ∃ n, n = s.staff.length := ⟨_, rfl⟩
  obtain ⟨bs, hbs⟩ : ∃ n, n = s.bays := ⟨_, rfl⟩
  obtain ⟨oe, hoe⟩ : ∃ n, n = oE l := ⟨_, rfl⟩
  obtain ⟨ol, hol⟩ : ∃ n, n = oL l := ⟨_, rfl⟩
  have HV := Lib.hid (show ∀ wy, Below w.heap.size w wy → Calls Try.prog 23 #[.slice a n cap, .agg #[.slice sa q sc, .int .i64 bs]] wy (RetB (.bool v) wy) from fun wy hy => by
    rw [hn, hv, hq, hbs]
    exact svalid_any l a cap s sa sc wy (hT.later hy) hl hS (hI.later hy) hs)
  have HO := Lib.hid (show ∀ wy, Below w.heap.size w wy → Calls Try.prog 24 #[.slice a n cap] wy (RetIE ol oe wy) from fun wy hy => by
    rw [hn, hol, hoe]
    exact (order_any l a cap wy (hT.later hy) hl hS).1)
  have HFI := Lib.hid (show ∀ x wy, Below w.heap.size w wy → Calls Try.prog 28 #[ldV x, .agg #[.slice sa q sc, .int .i64 bs]] wy (RetB (.bool (fitsB x s)) wy) from fun x wy hy => by
    rw [hq, hbs]
    exact fits_any x s sa sc wy (hI.later hy))
  have HT := Lib.hid hT
  have HI := Lib.hid hI
  have HN := Lib.hid hn
  have HQ := Lib.hid hq
  have HBS := Lib.hid hbs
  have HVE := Lib.hid hv
  have HOE := Lib.hid hoe
  unfold shV
  rw [← hn, ← hq, ← hbs]
  clear hv hT hl hS hI hs hn hq hbs hoe hol
  go_enter Try.func12, Try.ntmps12
  go_upto_region 1 with fail
  obtain ⟨wX, P3, hP, hbX, hB3, hwX⟩ : ∃ wX P3, P3 = w.heap.size ∧ Below w.heap.size w wX ∧ BoxAt wX P3 [.slice sa q sc, .int .i64 bs] ∧ wX = w.alloc (.cells #[.slice sa q sc, .int .i64 bs] 25) := ⟨_, _, rfl, (Below.refl _ _).alloc (Nat.le_refl _) _, BoxAt.new w _ _, rfl⟩
  rw [← hwX, ← hP]
  have HBX := Lib.hid hbX
  have HB3 := Lib.hid hB3
  have HP3 := Lib.hid hP
  have c30 := (hB3 0 _ rfl).1
  have c31 := (hB3 1 _ rfl).1
  clear hP hbX hB3 hwX
  go_wp2_with fail
  refine Calls.mono (HV.out wX HBX.out) ?_
  rintro e w1 ⟨rfl, hb1⟩
  have HB1 := Lib.hid hb1
  have d30 := cell_later hb1 c30
  have d31 := cell_later hb1 c31
  clear hb1 c30 c31
  cases v
  · have HNO := Lib.hid (show ¬ (VT l ∧ VS s) from fun h => by
      have := (vsB_iff l s).2 h
      rw [← HVE.out] at this
      cases this)
    go_wp2_with fail
    go_ret2
    exact ⟨[], 1, .inl ⟨rfl, rfl, HNO.out⟩, ⟨none, 0, rfl, Ints.nil _ _, HBX.out.trans (HB1.out.mono HBX.out.size)⟩⟩
  have hvv := (vsB_iff l s).1 HVE.out.symm
  have HVT := Lib.hid hvv.1
  have HVS := Lib.hid hvv.2
  have hn40 : n ≤ 40 := by rw [HN.out]; exact hvv.1.1
  have hoe2 : oe = ordE l := by rw [HOE.out]; unfold oE; exact if_pos hvv.1
  clear hvv
  go_wp2_with fail
  refine Calls.mono (HO.out w1 (HBX.out.trans (HB1.out.mono HBX.out.size))) ?_
  rintro e w2 ⟨oa, oc, rfl, _, hb2⟩
  have HB2 := Lib.hid (HB1.out.trans (hb2.mono HB1.out.size))
  have c30 := cell_later hb2 d30
  have c31 := cell_later hb2 d31
  clear hb2 d30 d31
  by_cases hord : (orderOf l).length < l.length
  · obtain rfl : oe = 24 := by rw [hoe2]; unfold ordE; exact if_pos hord
    have HORD := Lib.hid hord
    clear hoe2 hord
    go_wp2_with fail
    go_ret2
    exact ⟨[], 24, .inr (.inl ⟨rfl, rfl, HVT.out, HVS.out, HORD.out⟩), ⟨none, 0, rfl, Ints.nil _ _, HBX.out.trans (HB2.out.mono HBX.out.size)⟩⟩
  obtain rfl : oe = 0 := by rw [hoe2]; unfold ordE; exact if_neg hord
  have HORD := Lib.hid hord
  obtain ⟨an, han⟩ : ∃ an, an = l.any fun t => !canB s t := ⟨_, rfl⟩
  have HAN := Lib.hid han
  have HCA := Lib.hid (show Calls Try.prog 25 #[.slice a n cap, .func (.func 26) #[] #[.pointer (some ⟨P3, 0, none⟩)]] w2 (RetB (.bool an) w2) from by
    rw [han, HN.out]
    have hy := HBX.out.trans (HB2.out.mono HBX.out.size)
    exact cans_any l a cap s sa sc P3 w2 (HT.out.later hy) HVT.out (HI.out.later hy) (by rw [← HQ.out]; exact c30) (by rw [← HBS.out]; exact c31))
  clear hoe2 hord han
  go_wp2_with fail
  refine Calls.mono HCA.out ?_
  rintro e w3 ⟨rfl, hb3⟩
  have HB3' := Lib.hid (HB2.out.trans (hb3.mono HB2.out.size))
  have d30 := cell_later hb3 c30
  have d31 := cell_later hb3 c31
  clear hb3 c30 c31
  cases an
  case true =>
    go_wp2_with fail
    go_ret2
    exact ⟨[], 2, .inr (.inr (.inl ⟨rfl, rfl, HVT.out, HVS.out, HORD.out, HAN.out.symm⟩)), ⟨none, 0, rfl, Ints.nil _ _, HBX.out.trans (HB3'.out.mono HBX.out.size)⟩⟩
  have hmi := mk_ints n (by omega)
  have hmb := mk_bools n (by omega)
  go_upto_region 9 with fail
  obtain ⟨w4, A, hA, hb4, hO4, hw4⟩ : ∃ w4 A, A = w3.heap.size ∧ Below w3.heap.size w3 w4 ∧ OwnI w4 w3.heap.size (.slice (some ⟨A, 0, none⟩) n n) (List.replicate n 0) ∧ w4 = w3.alloc (.cells (Array.replicate n (Value.int .i64 0)) 3) := ⟨_, _, rfl, (Below.refl _ _).alloc (Nat.le_refl _) _, OwnI.new w3 _ n (Nat.le_refl _) (by omega), rfl⟩
  rw [← hw4, ← hA]
  have hs4 : w4.heap.size = w3.heap.size + 1 := by rw [hw4, World.size_alloc]
  have HB4 := Lib.hid (HB3'.out.trans (hb4.mono HB3'.out.size))
  have HO4 := Lib.hid hO4
  have HA := Lib.hid hA
  have HS4 := Lib.hid hs4
  have c30 := cell_later hb4 d30
  have c31 := cell_later hb4 d31
  clear hs4 hw4 hb4 hO4 hA d30 d31 hmi
  refine wp_flow_j (fun β L' w' => P9 w4 n β (L' 2) (L' 5) (L' 6) (L' 8) w') (by kernel_rfl) (by kernel_rfl) ?h0 ?_
  case h0 => exact ⟨(Below.refl _ _).drew, fun e => (by cases e), fun e => (by cases e), fun e => (by cases e), fun e => (by cases e), fun e => (by cases e), fun e => (by cases e)⟩
  iterate 2 (((with_reducible refine FlowJ.pure (v := ?_) ?_ ?_ ?_ ?_); rotate_left 1; (focus (intro _; rfl)); (focus (intro β L' w' hJ hat; (try dsimp only at hJ); (try dsimp only); simpa only [setL, Nat.reduceEqDiff, if_false] using hJ)); (focus (intro β L' w' hJ hat; (try dsimp only at hJ); skip; go_simp; (try with_reducible rfl); done)); (try simp only [Act.put, List.setIfInBounds_toArray, List.set_cons_zero, List.set_cons_succ, Nat.reduceAdd])))
  ((with_reducible refine FlowJ.ghost ?_ ?_ ?_); (focus (intro _; rfl)); (focus (intro β L' w' hJ hat K' hK; (try dsimp only at hJ); (have un := hat.un; simp only [un] at hJ; go_simp; refine hK.out _ _ ?_; simp only [setL, Nat.reduceEqDiff, if_true, if_false]; exact hJ.make2 (by omega)))); (try simp only [Act.put, List.setIfInBounds_toArray, List.set_cons_zero, List.set_cons_succ, Nat.reduceAdd]))
  iterate 2 (((with_reducible refine FlowJ.pure (v := ?_) ?_ ?_ ?_ ?_); rotate_left 1; (focus (intro _; rfl)); (focus (intro β L' w' hJ hat; (try dsimp only at hJ); (try dsimp only); simpa only [setL, Nat.reduceEqDiff, if_false] using hJ)); (focus (intro β L' w' hJ hat; (try dsimp only at hJ); skip; go_simp; (try with_reducible rfl); done)); (try simp only [Act.put, List.setIfInBounds_toArray, List.set_cons_zero, List.set_cons_succ, Nat.reduceAdd])))
  ((with_reducible refine FlowJ.ghost ?_ ?_ ?_); (focus (intro _; rfl)); (focus (intro β L' w' hJ hat K' hK; (try dsimp only at hJ); ((have n8 := hat.not (j := 8) (by kernel_rfl)); have un := hat.un; simp only [un, n8] at hJ; go_simp; refine hK.out _ _ ?_; simp only [setL, Nat.reduceEqDiff, if_true, if_false, n8]; exact hJ.make5 (by omega)))); (try simp only [Act.put, List.setIfInBounds_toArray, List.set_cons_zero, List.set_cons_succ, Nat.reduceAdd]))
  ((with_reducible refine FlowJ.ghost ?_ ?_ ?_); (focus (intro _; rfl)); (focus (intro β L' w' hJ hat K' hK; (try dsimp only at hJ); ((have n8 := hat.not (j := 8) (by kernel_rfl)); have un := hat.un; simp only [un, n8] at hJ; go_simp; refine hK.out _ _ ?_; simp only [setL, Nat.reduceEqDiff, if_true, if_false, n8]; exact hJ.alloc6 _))); (try simp only [Act.put, List.setIfInBounds_toArray, List.set_cons_zero, List.set_cons_succ, Nat.reduceAdd]))
  (refine FlowJ.pureG (v := fun β => β 2) (fun β k b hk => updG_ne β b (fun e => by subst e; exact Bool.false_ne_true (hk.symm.trans (by kernel_rfl)))) (fun β b => rfl) (fun _ => rfl) (fun β L' w' hJ hat => by simpa only [setL, Nat.reduceEqDiff, if_false] using hJ) (fun β L' w' hJ hat => by go_simp; (try with_reducible rfl); done) ?_; (try simp only [Act.put, List.setIfInBounds_toArray, List.set_cons_zero, List.set_cons_succ, Nat.reduceAdd]))
  ((with_reducible refine FlowJ.eff ?_ ?_ ?_); (focus (intro _; rfl)); (focus (intro β L' w' hJ hat K' hK; (try dsimp only at hJ); ((have p6 := hat.pre 6 (by kernel_rfl)); (have p5 := hat.pre 5 (by kernel_rfl)); have un := hat.un; simp only [un, p6, p5] at hJ; obtain ⟨mb, hmb6, _, _, hbx⟩ := hJ.a6 rfl; obtain ⟨m5, hm5, _, _⟩ := hJ.a5 rfl; have hst := hJ.store8 hmb6; obtain ⟨c0, f0⟩ := hbx 0 _ rfl; simp only [Bool.false_eq_true, if_false] at c0; rw [hmb6, hm5]; go_simp; rw [← hmb6, ← hm5]; refine hK.out _ ?_; simp only [setL, Nat.reduceEqDiff, if_true, if_false, p6, p5]; exact hst))); (try simp only [Act.put, Nat.reduceAdd]))
  refine FlowJ.stop ?_
  dsimp only
  intro β w5 hJ
  obtain ⟨Bg, hBg, hlBg, hOb⟩ := hJ.a2 rfl
  obtain ⟨Dn, hDn, hlDn, hOd⟩ := hJ.a5 rfl
  obtain ⟨Pd, hPd, hgPd, hlPd, hxPd⟩ := hJ.a6 rfl
  have n25 := hJ.n25 rfl rfl
  have n26 := hJ.n26 rfl rfl
  have n56 := hJ.n56 rfl rfl
  have hb5 := hJ.bl
  simp only [if_true] at hxPd
  rw [hBg, hDn] at n25
  rw [hBg, hPd] at n26
  rw [hDn, hPd] at n56
  rw [hDn] at hxPd ⊢
  rw [hBg, hPd]
  clear hJ hBg hDn hPd
  have hBgl : w4.heap.size ≤ Bg ∧ Bg < w5.heap.size := hOb.lt
  have hDnl : w4.heap.size ≤ Dn ∧ Dn < w5.heap.size := hOd.lt
  have HB5 := Lib.hid (HB4.out.trans (hb5.mono HB4.out.size))
  have d30 := cell_later hb5 c30
  have d31 := cell_later hb5 c31
  have HO5 := Lib.hid (HO4.out.later hb5)
  have HOB5 := Lib.hid hOb
  have HOD5 := Lib.hid hOd
  have HXD5 := Lib.hid hxPd
  have HNE5 := Lib.hid (And.intro n25 (And.intro n26 n56))
  have HZ5 := Lib.hid hb5.size
  have hmm := @run_makeMap Try.prog
  clear hb5 c30 c31 hOb hOd hxPd n25 n26 n56 hmb
  go_upto_region 13 with fail
  obtain ⟨w8, M, H, Y, hMHY, hw8⟩ : ∃ w8 M H Y, (M = w5.heap.size ∧ H = w5.heap.size + 1 ∧ Y = w5.heap.size + 1 + 1) ∧ w8 = ((w5.alloc (.map #[] 0)).alloc (.cells #[.int .i64 0] 3)).alloc (.cells #[.int .i64 0, .int .i64 0, .int .i64 0, .int .i64 0, .int .i64 0, .int .i64 0, .int .i64 0, .int .i64 0, .int .i64 0] 49) := ⟨_, _, _, _, ⟨rfl, rfl, rfl⟩, rfl⟩
  rw [← hw8, ← hMHY.2.2, ← hMHY.2.1, ← hMHY.1]
  have hb8 : Below w5.heap.size w5 w8 := by rw [hw8]; exact (((Below.refl _ _).alloc (Nat.le_refl _) _).alloc (by simp) _).alloc (by simp; omega) _
  have hs8 : w8.heap.size = w5.heap.size + 3 := by rw [hw8]; simp
  have hz3 := HB3'.out.size
  have hzX := HBX.out.size
  have hPx : P3 < wX.heap.size := World.block_lt_of_cell? _ _ (HB3.out 0 _ rfl).1
  have hs4 := HS4.out
  have hA := HA.out
  have hP3 := HP3.out
  have hz5 := HZ5.out
  have hY8 : BoxAt w8 Y (ldC ld0) := by
    rw [hw8, hMHY.2.2]
    have := BoxAt.new ((w5.alloc (.map #[] 0)).alloc (.cells #[.int .i64 0] 3)) (ldC ld0) 49
    rw [World.size_alloc, World.size_alloc] at this
    exact this
  have hM8 : MapIs Try.prog 3 w8 M 0 (endF fun _ => none) := by
    rw [hw8, hMHY.1]
    refine (((MapIs.made Try.prog 3 w5).alloc _).alloc _).congr fun v => ?_
    unfold endF
    split <;> rfl
  have hH8 : Hrs w8 w.heap.size H 0 1 [0] := by
    have hbx : BoxAt w8 H [.int .i64 0] := by
      rw [hw8, hMHY.2.1]
      have := (BoxAt.new (w5.alloc (.map #[] 0)) [.int .i64 0] 3).alloc (.cells #[.int .i64 0, .int .i64 0, .int .i64 0, .int .i64 0, .int .i64 0, .int .i64 0, .int .i64 0, .int .i64 0, .int .i64 0] 49)
      rw [World.size_alloc] at this
      exact this
    obtain ⟨c0, f0⟩ := hbx 0 _ rfl
    refine ⟨by omega, by omega, Nat.le_refl _, by omega, fun j hj => ?_, fun j hj => ?_, fun j hj => ?_⟩
    · have : j < 1 := hj
      obtain rfl : j = 0 := by omega
      exact c0
    · obtain rfl : j = 0 := by omega
      rw [Nat.zero_add, c0]; rfl
    · obtain rfl : j = 0 := by omega
      exact f0
  have hne := HNE5.out
  simp only [blk] at hne
  obtain ⟨kk, hkk⟩ : ∃ kk : Blk, kk = ⟨P3, A, Bg, Dn, Pd, M, Y⟩ := ⟨_, rfl⟩
  have hX8 : Fix w8 w.heap.size kk sa q sc bs (List.replicate n 0) (List.replicate n false) (List.replicate n false) ld0 := by
    subst hkk
    refine ⟨?_, fun b hb => ?_, fun b hb => ?_, cell_later hb8 d30, cell_later hb8 d31, ?_, ?_, ?_, ?_, hY8⟩
    · simp only [Blk.l, List.nodup_cons, List.mem_cons, List.not_mem_nil, or_false, not_or, List.nodup_nil, and_true, not_false_eq_true]
      omega
    · simp only [Blk.l, List.mem_cons, List.not_mem_nil, or_false] at hb
      omega
    · simp only [Blk.l, List.mem_cons, List.not_mem_nil, or_false] at hb
      omega
    · rw [List.length_replicate]
      exact OwnI.mono (HO5.out.later hb8) (by omega)
    · exact (HOB5.out.later hb8).mono (by omega)
    · exact (HOD5.out.later hb8).mono (by omega)
    · rw [List.length_replicate]
      exact HXD5.out.later hb8
  have hD8 : Dyn w8 w.heap.size kk [0] H 0 1 (fun _ => none) 0 := by
    subst hkk
    refine ⟨hH8, hM8, (fun y q hq => by cases hq), (fun y y' q q' hq => by cases hq), (fun y q hq => by cases hq), (fun hb => ?_)⟩
    simp only [Blk.l, List.mem_cons, List.not_mem_nil, or_false] at hb
    omega
  have HX8 := Lib.hid hX8
  have HD8 := Lib.hid hD8
  have HKK := Lib.hid hkk
  have HBW := Lib.hid (HBX.out.trans ((HB5.out.trans (hb8.mono HB5.out.size)).mono HBX.out.size))
  clear hX8 hD8 hkk hne hH8 hM8 hY8 hz5 hP3 hA hs4 hPx hzX hz3 hs8 hb8 hMHY hw8 hmm d30 d31 hDnl hBgl hlPd hgPd hlDn hlBg
  have hc0 : cntB l (List.replicate n false) = 0 := by
    unfold cntB
    have hz : ∀ m, cntP (bg (List.replicate n false)) m = 0 := fun m => by
      induction m with
      | zero => rfl
      | succ m ih =>
        unfold cntP
        rw [ih]
        have : bg (List.replicate n false) m = false := by
          unfold bg
          rw [List.getD_eq_getElem?_getD, List.getElem?_replicate]
          split <;> rfl
        rw [this]
        rfl
    exact hz _
  have hbr : ∀ j, bg (List.replicate n false) j = false := fun j => by
    unfold bg
    rw [List.getD_eq_getElem?_getD, List.getElem?_replicate]
    split <;> rfl
  have HTOP0 := Lib.hid (show Top l s (List.replicate n 0) (List.replicate n false) (List.replicate n false) [0] from .inr ⟨by rw [List.length_replicate, HN.out], by rw [List.length_replicate, HN.out], by rw [List.length_replicate, HN.out], hbr, hbr, rfl⟩)
  have HEN0 := Lib.hid (show EnL l (List.replicate n 0) (List.replicate n false) (List.replicate n false) (getE fun _ => none) from ⟨fun y x => ⟨fun h => by simp [getE] at h, fun ⟨k, _, _, h, _⟩ => by unfold runB at h; rw [hbr] at h; cases h⟩, fun y => by simp [getE]⟩)
  have HLD0 := Lib.hid (show ld0 = loadP l (runB (List.replicate n false) (List.replicate n false)) l.length from by
    have : ∀ m, loadP l (runB (List.replicate n false) (List.replicate n false)) m = ld0 := fun m => by
      induction m with
      | zero => rfl
      | succ m ih =>
        unfold loadP
        have : runB (List.replicate n false) (List.replicate n false) m = false := by unfold runB; rw [hbr]; rfl
        rw [this, ih]
        rfl
    exact (this _).symm)
  have HC0 := Lib.hid hc0
  clear hc0 hbr
  go_loopg [12] (n + 2) (fun gk v12 wr => ∃ st be dn hs g off cap2 F nm, v12 = .slice (some ⟨g, off, none⟩) hs.length cap2 ∧ (gk + cntB l be = n + hs.length + 1 ∧ hs.length ≤ 1 + cntB l be) ∧ Top l s st be dn hs ∧ EnL l st be dn (getE F) ∧ Fix wr w.heap.size kk sa q sc bs st be dn (loadP l (runB be dn) l.length) ∧ Dyn wr w.heap.size kk hs g off cap2 F nm ∧ Below w.heap.size w wr)
  case atStart => exact ⟨_, _, _, _, _, _, _, _, _, rfl, ⟨by rw [HC0.out]; rfl, by rw [HC0.out]; exact Nat.le_refl _⟩, HTOP0.out, HEN0.out, by rw [← HLD0.out]; exact HX8.out, HD8.out, HBW.out⟩
  case round =>
    obtain ⟨st, be, dn, hs, g, off, cap2, F, nm, rfl, hgk, htop, hen, hfx, hdy, hbw⟩ := hrel
    have HGK := Lib.hid hgk
    have HTOP := Lib.hid htop
    have HEN := Lib.hid hen
    have HFX := Lib.hid hfx
    have HDY := Lib.hid hdy
    have HBR := Lib.hid hbw
    clear hgk htop hen hfx hdy hbw
    cases hs with
    | nil =>
      --<
      have hgr := HTOP.out.fin HVT.out (by have := HORD.out; have := order_le HVT.out; omega) (fun j hj => by
        have := HAN.out.symm
        rw [List.any_eq_false] at this
        have := this _ (tg_mem hj)
        simpa using this)
      have HGR := Lib.hid hgr
      obtain ⟨nS, hnS⟩ : ∃ m, m = st.length := ⟨_, rfl⟩
      have hnS2 : nS = n := by rw [hnS, HN.out]; exact hgr.len
      subst hnS2
      have HST := Lib.hid HFX.out.stO
      have HNS := Lib.hid hnS
      clear hgr hnS
      go_wp2_with fail
      go_ret2
      obtain ⟨ia, ic, e, hi, _⟩ := HST.out.ints
      refine ⟨st, 0, .inr (.inr (.inr ⟨rfl, HVT.out, HVS.out, HORD.out, HAN.out.symm, HGR.out⟩)), ⟨ia, ic, ?_, hi, HBR.out⟩⟩
      rw [← e, ← HNS.out]
      have hka : kk.A = A := by rw [HKK.out]
      rw [hka]
      rfl
      -->
    | cons h' r =>
      have c0 : wr.cell? ⟨g, off, none⟩ = some (.int .i64 h') := HDY.out.hrs.cell 0 (by simp)
      have hcap : r.length + 1 ≤ cap2 := HDY.out.hrs.le
      have hcm := HDY.out.hrs.cm
      obtain ⟨off2, hoff2, hd2⟩ : ∃ off2, (if cap2 = 1 then some (⟨g, off, none⟩ : Addr) else some ⟨g, off + 1, none⟩) = some ⟨g, off2, none⟩ ∧ Dyn wr w.heap.size kk r g off2 (cap2 - 1) F nm := by
        have hd := HDY.out.tail
        by_cases e : cap2 = 1
        · refine ⟨off, if_pos e, ⟨⟨hd.hrs.lo, hd.hrs.lt, hd.hrs.le, hd.hrs.cm, fun j hj => absurd hj ?_, fun j hj => absurd hj (by omega), fun j hj => absurd hj (by omega)⟩, hd.m, hd.own, hd.inj, hd.gF, hd.gk⟩⟩
          have := hd.hrs.le
          omega
        · exact ⟨off + 1, if_neg e, hd⟩
      have HOFF := Lib.hid hoff2
      clear hoff2
      have HD2 := Lib.hid hd2
      obtain ⟨m, hm⟩ : ∃ m, m = r.length := ⟨_, rfl⟩
      have HM := Lib.hid hm
      have hl : (h' :: r).length = m + 1 := by rw [hm]; rfl
      have HGK2 := Lib.hid (show ∀ k1 c1 : Nat, c1 ≤ n → k1 + cntB l be ≤ m + c1 → n + k1 + 1 - c1 < gk from fun k1 c1 h1 h2 => by
        have := HGK.out.1
        rw [hl] at this
        omega)
      have HML := Lib.hid (show m ≤ cntB l be from by
        have := HGK.out.2
        rw [hl] at this
        omega)
      rw [← hm] at hcap
      rw [hl]
      clear hd2 hm hl
      go_upto_region 16 with fail
      rw [HOFF.out]
      have hhd := HTOP.out.head HVT.out
      have HKEY := Lib.hid (key_int h' (by omega))
      obtain ⟨ea, ec, hlk, hei, heo⟩ := HD2.out.look h'
      have HLK := Lib.hid hlk
      have HEI := Lib.hid hei
      have hkM : kk.M = M := by rw [HKK.out]
      have hm2 := HD2.out.m
      rw [hkM] at hm2
      have HM2 := Lib.hid hm2
      clear hlk hei heo hm2 hkM
      go_upto_region 17 with (at_lookup; refine wpList_look rfl _ _ _ rfl 3 23 Kint Try.underlying53 (.slice none 0 0) Try.zeroValue23 M nm (endF F) rfl HM2.out (.int .i64 h') (.int .i64 h') rfl HKEY.out ?_; rw [HLK.out])
      obtain ⟨G, hG⟩ : ∃ G, G = getE F h' := ⟨_, rfl⟩
      rw [← hG] at HLK HEI
      rw [← hG]
      have HG := Lib.hid hG
      have hgl : G.length ≤ 40 := by
        rw [hG]
        have := HEN.out.len h'
        have := HVT.out.1
        omega
      have hdl : dn.length = l.length := by
        rcases HTOP.out with ⟨_, h⟩ | ⟨_, _, h, _⟩
        · exact h.dnl
        · exact h
      have HDL := Lib.hid hdl
      clear hG hdl
      go_loopg [61] (G.length + 1) (fun gk v61 wq => ∃ j : Nat, j ≤ G.length ∧ gk + j = G.length + 1 ∧ v61 = .int .i64 j ∧ Fix wq w.heap.size kk sa q sc bs st be (relD dn G j) (loadP l (runB be (relD dn G j)) l.length) ∧ Dyn wq w.heap.size kk r g off2 (cap2 - 1) F nm ∧ Below w.heap.size w wq)
      case atStart => exact ⟨0, by omega, by omega, rfl, HFX.out, HD2.out, HBR.out⟩
      case round =>
        obtain ⟨j, hj, hgj, rfl, hfx, hdy, hbw⟩ := hrel
        have HFJ := Lib.hid hfx
        have HDJ := Lib.hid hdy
        have HBJ := Lib.hid hbw
        clear hfx hdy hbw
        by_cases hlt : j < G.length
        ·
          --<
          obtain ⟨ea2, ec2, hlk2, hei2, _⟩ := HDJ.out.look h'
          rw [HLK.out, ← HG.out] at hlk2
          rw [← HG.out] at hei2
          cases hlk2
          obtain ⟨eb, eo, rfl, fe⟩ := hei2.fam (by omega)
          have ce := fe j hlt
          obtain ⟨mm, hm1, hml, hrd, hrl⟩ := relD_step HVT.out HEN.out HDL.out h' (j := j) (by rw [← HG.out]; exact hlt)
          rw [← HG.out] at hm1 hrd hrl
          rw [hm1] at ce
          have hmn : mm < n := by rw [HN.out]; exact hml
          obtain ⟨tb, tf, aa, ac, rfl, b0, b1, b2, b3, _⟩ := HT.out mm hml
          obtain ⟨t, ht⟩ : ∃ t, t = tg l mm := ⟨_, rfl⟩
          rw [← ht] at b0 b1 b2 b3
          have HTC := Lib.hid (And.intro b0 (And.intro b1 (And.intro b2 b3)))
          clear b0 b1 b2 b3
          obtain ⟨D, hD⟩ : ∃ D, D = relD dn G j := ⟨_, rfl⟩
          have hDl : D.length = n := by rw [hD, relD_len, HDL.out, HN.out]
          obtain ⟨x, hx⟩ : ∃ x, x = loadP l (runB be D) l.length := ⟨_, rfl⟩
          obtain ⟨usk, husk⟩ : ∃ u : Nat, t.skill = u := ⟨t.skill.toNat, by have := (HVT.out.2 mm hml).2.2.1; rw [← ht] at this; omega⟩
          have h8 : usk < 8 := by have := (HVT.out.2 mm hml).2.2.2.1; rw [← ht] at this; omega
          obtain ⟨y, hy⟩ : ∃ y, y = addL x usk t.bay (-1) := ⟨_, rfl⟩
          have HAD := Lib.hid (show ∀ wy, Calls Try.prog 27 #[ldV x, tkV t aa ac, .int .i64 (-1)] wy (RetB (ldV y) wy) from fun wy => by
            rw [hy]
            exact add_any x t aa ac usk (-1) wy husk h8 (by rw [hx]; exact loadP_S HVT.out _ (Nat.le_refl _)) (.inr rfl))
          have HNX := Lib.hid (show loadP l (runB be (relD dn G (j + 1))) l.length = y from by
            rw [hrl, ← hD, ← hx, ← ht, hy, husk]
            rfl)
          have HRD := Lib.hid (show relD dn G (j + 1) = D.set mm true from by rw [hrd, hD])
          have hfx := HFJ.out
          rw [← hD, ← hx] at hfx
          have HJ0 := Lib.hid (show J19 w.heap.size w kk sa q sc bs st be D mm x y r g off2 (cap2 - 1) F nm false false wr from ⟨hfx, HDJ.out, HBJ.out⟩)
          have HMN := Lib.hid hmn
          have HDL2 := Lib.hid hDl
          have n0 : (0 : Int) ≤ (j : Int) := by omega
          have n1 : (j : Int) < (G.length : Int) := by omega
          have m0 : (0 : Int) ≤ (mm : Int) := by omega
          have m1 : (mm : Int) < (n : Int) := by omega
          clear fe hei2 hD hx hy ht husk h8 hrd hrl hm1 hml hfx hDl hmn
          go_upto_region 19 with fail
          clear ce n0 n1
          have eP : kk.Pd = Pd := by rw [HKK.out]
          have eD : kk.Dn = Dn := by rw [HKK.out]
          have eY : kk.Y = Y := by rw [HKK.out]
          have HEP := Lib.hid eP
          have HED := Lib.hid eD
          have HEY := Lib.hid eY
          clear eP eD eY
          refine wp_flow_j (fun β L' w' => J19 w.heap.size w kk sa q sc bs st be D mm x y r g off2 (cap2 - 1) F nm (L' 8) (L' 10) w') (by kernel_rfl) (by kernel_rfl) ?h0 ?_
          case h0 => exact HJ0.out.later ((Below.refl _ _).drew) HJ0.out.fx.size
          ((with_reducible refine FlowJ.pure (v := .slice (some ⟨Dn, 0, none⟩) n n) ?_ ?_ ?_ ?_); (focus (intro _; rfl)); (focus (intro β L' w' hJ hat; (try dsimp only at hJ); (try dsimp only); simpa only [setL, Nat.reduceEqDiff, if_false] using hJ)); (focus (intro β L' w' hJ hat; (try dsimp only at hJ); (have c := hJ.c10; rw [HEP.out, HED.out, HDL2.out] at c; clear hJ; go_simp; (try with_reducible rfl); done))); (try simp only [Act.put, List.setIfInBounds_toArray, List.set_cons_zero, List.set_cons_succ, Nat.reduceAdd]))
          ((with_reducible refine FlowJ.pure (v := ?_) ?_ ?_ ?_ ?_); rotate_left 1; (focus (intro _; rfl)); (focus (intro β L' w' hJ hat; (try dsimp only at hJ); (try dsimp only); simpa only [setL, Nat.reduceEqDiff, if_false] using hJ)); (focus (intro β L' w' hJ hat; (try dsimp only at hJ); skip; go_simp; (try with_reducible rfl); done)); (try simp only [Act.put, List.setIfInBounds_toArray, List.set_cons_zero, List.set_cons_succ, Nat.reduceAdd]))
          ((with_reducible refine FlowJ.pure (v := ldV x) ?_ ?_ ?_ ?_); (focus (intro _; rfl)); (focus (intro β L' w' hJ hat; (try dsimp only at hJ); (try dsimp only); simpa only [setL, Nat.reduceEqDiff, if_false] using hJ)); (focus (intro β L' w' hJ hat; (try dsimp only at hJ); ((have n8 := hat.not (j := 8) (by kernel_rfl)); simp only [n8] at hJ; have hy := hJ.fx.y; rw [HEY.out] at hy; have x0 := (hy 0 _ rfl).1; have x1 := (hy 1 _ rfl).1; have x2 := (hy 2 _ rfl).1; have x3 := (hy 3 _ rfl).1; have x4 := (hy 4 _ rfl).1; have x5 := (hy 5 _ rfl).1; have x6 := (hy 6 _ rfl).1; have x7 := (hy 7 _ rfl).1; have x8 := (hy 8 _ rfl).1; clear hy hJ; go_simp; (try with_reducible rfl); done))); (try simp only [Act.put, List.setIfInBounds_toArray, List.set_cons_zero, List.set_cons_succ, Nat.reduceAdd]))
          iterate 3 (((with_reducible refine FlowJ.pure (v := ?_) ?_ ?_ ?_ ?_); rotate_left 1; (focus (intro _; rfl)); (focus (intro β L' w' hJ hat; (try dsimp only at hJ); (try dsimp only); simpa only [setL, Nat.reduceEqDiff, if_false] using hJ)); (focus (intro β L' w' hJ hat; (try dsimp only at hJ); skip; go_simp; (try with_reducible rfl); done)); (try simp only [Act.put, List.setIfInBounds_toArray, List.set_cons_zero, List.set_cons_succ, Nat.reduceAdd])))
          ((with_reducible refine FlowJ.pure (v := tkV t aa ac) ?_ ?_ ?_ ?_); (focus (intro _; rfl)); (focus (intro β L' w' hJ hat; (try dsimp only at hJ); (try dsimp only); simpa only [setL, Nat.reduceEqDiff, if_false] using hJ)); (focus (intro β L' w' hJ hat; (try dsimp only at hJ); (obtain ⟨b0, b1, b2, b3⟩ := HTC.out; have b0 := cell_later hJ.bl b0; have b1 := cell_later hJ.bl b1; have b2 := cell_later hJ.bl b2; have b3 := cell_later hJ.bl b3; clear hJ; go_simp; (try with_reducible rfl); done))); (try simp only [Act.put, List.setIfInBounds_toArray, List.set_cons_zero, List.set_cons_succ, Nat.reduceAdd]))
          ((with_reducible refine FlowJ.call (v := ?_) ?_ ?_ ?_); rotate_left 1; (focus (intro _; rfl)); (focus (intro β L' w' hJ hat K' hK; (try dsimp only at hJ); (go_simp; go_at_call 27; refine Calls.mono (HAD.out _) ?_; rintro e wc ⟨rfl, hbc⟩; exact hK.out _ (hJ.later hbc hJ.fx.size)))); (try simp only [Act.put, List.setIfInBounds_toArray, List.set_cons_zero, List.set_cons_succ, Nat.reduceAdd]))
          ((with_reducible refine FlowJ.eff ?_ ?_ ?_); (focus (intro _; rfl)); (focus (intro β L' w' hJ hat K' hK; (try dsimp only at hJ); (have un := hat.un; simp only [un] at hJ; have hst := hJ.store8; have hy := hJ.fx.y; simp only [Bool.false_eq_true, if_false] at hy; rw [HEY.out] at hy hst; simp only [World.setCells, Nat.zero_add, Nat.reduceAdd] at hst; obtain ⟨v0, g0⟩ := hy 0 _ rfl; obtain ⟨v1, g1⟩ := hy 1 _ rfl; obtain ⟨v2, g2⟩ := hy 2 _ rfl; obtain ⟨v3, g3⟩ := hy 3 _ rfl; obtain ⟨v4, g4⟩ := hy 4 _ rfl; obtain ⟨v5, g5⟩ := hy 5 _ rfl; obtain ⟨v6, g6⟩ := hy 6 _ rfl; obtain ⟨v7, g7⟩ := hy 7 _ rfl; obtain ⟨v8, g8⟩ := hy 8 _ rfl; clear hy hJ; have HST := Lib.hid hst; clear hst; go_simp; refine hK.out _ ?_; simp only [setL, Nat.reduceEqDiff, if_true, if_false]; exact HST.out))); (try simp only [Act.put, Nat.reduceAdd]))
          ((with_reducible refine FlowJ.pure (v := ?_) ?_ ?_ ?_ ?_); rotate_left 1; (focus (intro _; rfl)); (focus (intro β L' w' hJ hat; (try dsimp only at hJ); (try dsimp only); simpa only [setL, Nat.reduceEqDiff, if_false] using hJ)); (focus (intro β L' w' hJ hat; (try dsimp only at hJ); skip; go_simp; (try with_reducible rfl); done)); (try simp only [Act.put, List.setIfInBounds_toArray, List.set_cons_zero, List.set_cons_succ, Nat.reduceAdd]))
          ((with_reducible refine FlowJ.eff ?_ ?_ ?_); (focus (intro _; rfl)); (focus (intro β L' w' hJ hat K' hK; (try dsimp only at hJ); (have un := hat.un; simp only [un] at hJ; have hst := hJ.store10; have hd := hJ.fx.dnO; simp only [Bool.false_eq_true, if_false] at hd; rw [HED.out] at hd hst; have c0 := hd.cell (j := mm) (by rw [HDL2.out]; exact HMN.out); have f0 := hd.free mm; clear hd hJ; have HST := Lib.hid hst; clear hst; go_simp; refine hK.out _ ?_; simp only [setL, Nat.reduceEqDiff, if_true, if_false]; exact HST.out))); (try simp only [Act.put, Nat.reduceAdd]))
          refine FlowJ.stop ?_
          intro β w19 hJ
          have HJ := Lib.hid (show J19 w.heap.size w kk sa q sc bs st be D mm x y r g off2 (cap2 - 1) F nm true true w19 from hJ)
          clear hJ
          go_wp2_with fail
          go_roundg (gk - 1)
          case measure => omega
          case rel =>
            have h := HJ.out
            have hgl' : (G.length : Int) ≤ 40 := by omega
            refine ⟨j + 1, by omega, by omega, by go_num, ?_, h.dy, h.bl⟩
            rw [HNX.out, HRD.out]
            exact h.fx
          -->
        · obtain rfl : j = G.length := by omega
          have hkM : kk.M = M := by rw [HKK.out]
          have hm3 := HDJ.out.m
          rw [hkM] at hm3
          have HM3 := Lib.hid hm3
          clear hm3 hlt
          go_upto_region 22 with (with_reducible show wpList _ _ _ (⟨none, _, _, _, _, _⟩ :: _) _ _; refine wpList_delete rfl _ _ _ rfl Kint Try.underlying53 M nm (endF F) rfl HM3.out (.int .i64 h') (.int .i64 h') rfl HKEY.out ?_; intro w21 hm21 hg21 hs21)
          obtain ⟨dn2, hdn2⟩ : ∃ d, d = relD dn G G.length := ⟨_, rfl⟩
          have hpi : PI l s h' 0 st be dn2 r := HTOP.out.pop HVT.out (by rw [hdn2, relD_len]; exact HDL.out) (fun k hk => by rw [hdn2, HG.out]; exact relD_all HEN.out HDL.out h' k hk)
          have hf21 : Fix w21 w.heap.size kk sa q sc bs st be (relD dn G G.length) (loadP l (runB be (relD dn G G.length)) l.length) := HFJ.out.chgM (by have := grown_chg hg21; rw [← hkM] at this; exact this)
          have hd21 : Dyn w21 w.heap.size kk r g off2 (cap2 - 1) (putE F h' none) nm := HDJ.out.del h' (by rw [hkM]; exact hm21) (by rw [hkM]; exact hg21)
          have hb21 : Below w.heap.size w w21 := HBJ.out.trans ((grown_chg hg21).below HFJ.out.size fun j e => by rw [e, ← hkM]; exact HFJ.out.lo _ (by simp [Blk.l]))
          have hen21 : EnL l st be dn2 (getE (putE F h' none)) := by
            have h := HEN.out.pop HDL.out h'
            rw [← HG.out, ← hdn2] at h
            have e : (fun z => if z = h' then [] else getE F z) = getE (putE F h' none) := by
              funext z
              unfold getE putE
              by_cases hz : z = h'
              · simp [hz]
              · simp [hz]
            rw [e] at h
            exact h
          rw [← hdn2] at hf21
          obtain ⟨F0, hF0⟩ : ∃ f, f = putE F h' none := ⟨_, rfl⟩
          rw [← hF0] at hd21 hen21
          have HK21 := Lib.hid (show K3 w.heap.size w kk sa q sc bs l st be dn2 r g off2 (cap2 - 1) F0 nm w21 from ⟨hf21, hd21, hb21, hen21⟩)
          have HPI := Lib.hid hpi
          have HDN2 := Lib.hid (show dn2.length = n from by rw [HN.out]; exact hpi.dnl)
          have HH := Lib.hid (HTOP.out.head HVT.out)
          clear hf21 hd21 hb21 hen21 hpi hdn2 hF0 hm21 hg21 hs21 HLK HEI HKEY HM2 HM3 HG HD2 HFX HDY HBR HTOP HEN HFJ HDJ HBJ hkM HDL
          go_upto_region 23 with fail
          clear hj hgj
          go_loopg [12, 79] (n + 1) (fun gk v12 v79 wz => ∃ (i : Nat) (st1 : List Int) (be1 : List Bool) (hs1 : List Int) (g1 off1 cap1 : Nat) (F1 : Int → Option (Nat × Nat × List Int)) (nm1 : Nat), i ≤ n ∧ gk + i = n + 1 ∧ v79 = .int .i64 i ∧ v12 = .slice (some ⟨g1, off1, none⟩) hs1.length cap1 ∧ PI l s h' i st1 be1 dn2 hs1 ∧ K3 w.heap.size w kk sa q sc bs l st1 be1 dn2 hs1 g1 off1 cap1 F1 nm1 wz ∧ hs1.length + cntB l be ≤ m + cntB l be1)
          case atStart => exact ⟨0, st, be, r, g, off2, cap2 - 1, F0, nm, by omega, by omega, rfl, by rw [← HM.out], HPI.out, HK21.out, by rw [← HM.out]; exact Nat.le_refl _⟩
          case round =>
            obtain ⟨i, st1, be1, hs1, g1, off1, cap1, F1, nm1, hi, hgi, rfl, rfl, hpi1, hk1, hrk⟩ := hrel
            have HP1 := Lib.hid hpi1
            have HK1 := Lib.hid hk1
            have HRK := Lib.hid hrk
            clear hpi1 hk1 hrk
            by_cases hlt : i < n
            · have hiL : i < l.length := by rw [← HN.out]; exact hlt
              have HIL := Lib.hid hiL
              obtain ⟨tb, tf, aa, ac, rfl, b0, b1, b2, b3, hAI⟩ := (HT.out.later HK1.out.bl) i hiL
              obtain ⟨t, ht⟩ : ∃ t, t = tg l i := ⟨_, rfl⟩
              rw [← ht] at b0 b1 b2 b3 hAI
              have htk := HVT.out.2 i hiL
              rw [← ht] at htk
              have HTK := Lib.hid htk
              have HTE := Lib.hid ht
              have HAI := Lib.hid hAI
              have n1 : (i : Int) < (n : Int) := by omega
              have n0 : (0 : Int) ≤ (i : Int) := by omega
              have htb : tb < wr.heap.size := World.block_lt_of_cell? _ _ b0
              clear ht hAI htk hiL
              go_upto_region 25 with fail
              obtain ⟨w24, T, hT24, hb24, hBT, hw24⟩ : ∃ w24 T, T = wr.heap.size ∧ Below wr.heap.size wr w24 ∧ BoxAt w24 T [.int .i64 t.hours, .int .i64 t.skill, .bool t.bay, .slice aa t.after.length ac] ∧ w24 = wr.alloc (.cells #[.int .i64 t.hours, .int .i64 t.skill, .bool t.bay, .slice aa t.after.length ac] 38) := ⟨_, _, rfl, (Below.refl _ _).alloc (Nat.le_refl _) _, BoxAt.new wr _ _, rfl⟩
              rw [← hw24, ← hT24]
              have HK24 := Lib.hid (HK1.out.later hb24)
              have HBT := Lib.hid hBT
              have HTZ := Lib.hid (show T < w24.heap.size ∧ ∀ b ∈ kk.l, b ≠ T from ⟨World.block_lt_of_cell? _ _ (hBT 0 _ rfl).1, fun b hb => by have := HK1.out.fx.lt b hb; omega⟩)
              have HAI24 := Lib.hid (HAI.out.later hb24)
              have t3 := (hBT 3 _ rfl).1
              have htl : T < w24.heap.size := HTZ.out.1
              have ePd : kk.Pd = Pd := by rw [HKK.out]
              obtain ⟨wt, hwt⟩ : ∃ b, b = !allDone dn2 t.after := ⟨_, rfl⟩
              have HWT := Lib.hid hwt
              have HCF := Lib.hid (show Calls Try.prog 29 #[.slice aa t.after.length ac, .func (.func 30) #[] #[.pointer (some ⟨Pd, 0, none⟩)]] w24 (RetS (.bool wt) w24) from by
                have hk := HK24.out.fx
                have hp := (hk.pd 0 _ rfl).1
                rw [hwt, HTE.out]
                rw [ePd] at hp
                exact pwaits_any HVT.out HIL.out dn2 kk.Dn Pd _ (by rw [HDN2.out, HN.out]) aa ac w24 (by rw [← HTE.out]; exact HAI24.out) hk.dnO hp)
              clear hT24 hb24 hBT hw24 ePd hwt b0 b1 b2 b3 n1 n0 htb
              go_wp2_with fail
              refine Calls.mono HCF.out ?_
              rintro e w25 ⟨rfl, rfl⟩
              clear t3
              go_upto_region 26 with fail
              obtain ⟨x, hx⟩ : ∃ x, x = loadP l (runB be1 dn2) l.length := ⟨_, rfl⟩
              have eY : kk.Y = Y := by rw [HKK.out]
              have hy0 := HK24.out.fx.y
              rw [← hx, eY] at hy0
              have x0 := (hy0 0 _ rfl).1
              have x1 := (hy0 1 _ rfl).1
              have x2 := (hy0 2 _ rfl).1
              have x3 := (hy0 3 _ rfl).1
              have x4 := (hy0 4 _ rfl).1
              have x5 := (hy0 5 _ rfl).1
              have x6 := (hy0 6 _ rfl).1
              have x7 := (hy0 7 _ rfl).1
              have x8 := (hy0 8 _ rfl).1
              have t0 := (HBT.out 0 _ rfl).1
              have t1 := (HBT.out 1 _ rfl).1
              have t2 := (HBT.out 2 _ rfl).1
              have t3 := (HBT.out 3 _ rfl).1
              obtain ⟨usk, husk⟩ : ∃ u : Nat, t.skill = u := ⟨t.skill.toNat, by have := HTK.out.2.2.1; omega⟩
              have h8 : usk < 8 := by have := HTK.out.2.2.2.1; omega
              obtain ⟨y, hy⟩ : ∃ y, y = addL x usk t.bay 1 := ⟨_, rfl⟩
              have HAD := Lib.hid (show ∀ wy, Calls Try.prog 27 #[ldV x, tkV t aa ac, .int .i64 1] wy (RetB (ldV y) wy) from fun wy => by
                rw [hy]
                exact add_any x t aa ac usk 1 wy husk h8 (by rw [hx]; exact loadP_S HVT.out _ (Nat.le_refl _)) (.inl rfl))
              have HYE := Lib.hid (show y = addL (loadP l (runB be1 dn2) l.length) (tg l i).skill.toNat (tg l i).bay 1 from by
                rw [hy, hx, ← HTE.out, husk]
                rfl)
              have HX := Lib.hid hx
              have HY := Lib.hid eY
              clear hx husk h8 hy hy0 eY
              go_wp2_with fail
              refine Calls.mono (HAD.out _) ?_
              rintro e w26 ⟨rfl, hb26⟩
              have HK26 := Lib.hid (HK24.out.later hb26)
              have HBT26 := Lib.hid (HBT.out.later hb26)
              have HB26Z := Lib.hid hb26.size
              have HT26 := Lib.hid (show T < w26.heap.size from Nat.lt_of_lt_of_le HTZ.out.1 hb26.size)
              clear x0 x1 x2 x3 x4 x5 x6 x7 x8 t0 t1 t2 t3 hb26 htl HAD HCF
              go_upto_region 27 with fail
              obtain ⟨w27, N, hN, hb27, hBN, hw27⟩ : ∃ w27 N, N = w26.heap.size ∧ Below w26.heap.size w26 w27 ∧ BoxAt w27 N (ldC y) ∧ w27 = w26.alloc (.cells #[.int .i64 (ig y.p 0), .int .i64 (ig y.p 1), .int .i64 (ig y.p 2), .int .i64 (ig y.p 3), .int .i64 (ig y.p 4), .int .i64 (ig y.p 5), .int .i64 (ig y.p 6), .int .i64 (ig y.p 7), .int .i64 y.b] 49) := ⟨_, _, rfl, (Below.refl _ _).alloc (Nat.le_refl _) _, BoxAt.new w26 _ _, rfl⟩
              rw [← hw27, ← hN]
              have HK27 := Lib.hid (HK26.out.later hb27)
              have HBT27 := Lib.hid (HBT26.out.later hb27)
              have HK24Z := Lib.hid (Nat.le_trans HB26Z.out hb27.size)
              have HBN := Lib.hid hBN
              have HNZ := Lib.hid (show N < w27.heap.size ∧ N ≠ T ∧ ∀ b ∈ kk.l, b ≠ N from ⟨World.block_lt_of_cell? _ _ (hBN 0 _ rfl).1, by have := HT26.out; omega, fun b hb => by have := HK26.out.fx.lt b hb; omega⟩)
              have eBg : kk.Bg = Bg := by rw [HKK.out]
              have eP3 : kk.P3 = P3 := by rw [HKK.out]
              obtain ⟨bi, hbi⟩ : ∃ b, b = bg be1 i := ⟨_, rfl⟩
              obtain ⟨ft, hft⟩ : ∃ b, b = fitsB y s := ⟨_, rfl⟩
              have cb := HK27.out.fx.beO.cell (j := i) (by rw [HP1.out.bel]; exact HIL.out)
              rw [eBg, ← hbi] at cb
              have e30 := HK27.out.fx.c30
              have e31 := HK27.out.fx.c31
              rw [eP3] at e30 e31
              have HBI := Lib.hid hbi
              have HFT := Lib.hid hft
              have HEB := Lib.hid eBg
              have HFI2 := Lib.hid (show Calls Try.prog 28 #[ldV y, .agg #[.slice sa q sc, .int .i64 bs]] w27 (RetB (.bool ft) w27) from by
                rw [hft]
                exact HFI.out y w27 HK27.out.bl)
              have n1 : (i : Int) < (n : Int) := by omega
              have n0 : (0 : Int) ≤ (i : Int) := by omega
              have y0 := (hBN 0 _ rfl).1
              have y1 := (hBN 1 _ rfl).1
              have y2 := (hBN 2 _ rfl).1
              have y3 := (hBN 3 _ rfl).1
              have y4 := (hBN 4 _ rfl).1
              have y5 := (hBN 5 _ rfl).1
              have y6 := (hBN 6 _ rfl).1
              have y7 := (hBN 7 _ rfl).1
              have y8 := (hBN 8 _ rfl).1
              have hNl : N < w27.heap.size := HNZ.out.1
              clear hN hb27 hBN hw27 hbi hft eBg eP3
              have SKIP := Lib.hid (show (bi = true ∨ wt = true ∨ ft = false) → PI l s h' (i + 1) st1 be1 dn2 hs1 from fun h => HP1.out.skip HVT.out HIL.out (by
                rcases h with h | h | h
                · exact .inl (by rw [← HBI.out]; exact h)
                · refine .inr fun h2 => ?_
                  have h3 := HWT.out
                  rw [h, HTE.out, h2.1] at h3
                  cases h3
                · refine .inr fun h2 => ?_
                  have h3 := HFT.out
                  rw [h, HYE.out] at h3
                  rw [fitsB_yes h2.2] at h3
                  cases h3))
              cases bi
              case true =>
                --<
                have HPS := Lib.hid (SKIP.out (.inl rfl))
                go_wp2_with fail
                go_roundg (gk - 1)
                case measure => omega
                case rel => exact ⟨i + 1, st1, be1, hs1, g1, off1, cap1, F1, nm1, by omega, by omega, by go_num, rfl, HPS.out, HK27.out, HRK.out⟩
                -->
              cases wt
              case true =>
                --<
                have HPS := Lib.hid (SKIP.out (.inr (.inl rfl)))
                go_wp2_with fail
                go_roundg (gk - 1)
                case measure => omega
                case rel => exact ⟨i + 1, st1, be1, hs1, g1, off1, cap1, F1, nm1, by omega, by omega, by go_num, rfl, HPS.out, HK27.out, HRK.out⟩
                -->
              cases ft
              case false =>
                --<
                have HPS := Lib.hid (SKIP.out (.inr (.inr rfl)))
                go_wp2_with fail
                refine Calls.mono HFI2.out ?_
                rintro e w28 ⟨rfl, hb28⟩
                have HK28 := Lib.hid (HK27.out.later hb28)
                clear hb28
                go_wp2_with fail
                go_roundg (gk - 1)
                case measure => omega
                case rel => exact ⟨i + 1, st1, be1, hs1, g1, off1, cap1, F1, nm1, by omega, by omega, by go_num, rfl, HPS.out, HK28.out, HRK.out⟩
                -->
              clear SKIP
              go_wp2_with fail
              refine Calls.mono HFI2.out ?_
              rintro e w28 ⟨rfl, hb28⟩
              have HK28 := Lib.hid (HK27.out.later hb28)
              have HBT28 := Lib.hid (HBT27.out.later hb28)
              have HBN28 := Lib.hid (HBN.out.later hb28)
              have HZ28 := Lib.hid hb28.size
              clear hb28 cb e30 e31 y0 y1 y2 y3 y4 y5 y6 y7 y8
              go_upto_region 28 with fail
              have hf := HK28.out.fx
              obtain ⟨w29, hw29, hwf⟩ := beg_worldE y i h' HK28.out.fx HK28.out.dy HK28.out.bl
              have HW := Lib.hid hwf
              have eY : kk.Y = Y := by rw [HKK.out]
              have eA : kk.A = A := by rw [HKK.out]
              have eBg := HEB.out
              have hyb := hf.y
              have cA := hf.stO.cell (j := i) (by rw [HP1.out.stl]; exact HIL.out)
              have fA := hf.stO.free i
              have cb := hf.beO.cell (j := i) (by rw [HP1.out.bel]; exact HIL.out)
              have fb := hf.beO.free i
              obtain ⟨⟨_, _, _, _, _, _⟩, ⟨hABg, _, _, _, hAY⟩, ⟨_, _, _, hBgY⟩, _, _, _⟩ := hf.ne
              rw [← HX.out, eY] at hyb
              rw [eY, eBg, eA] at hw29
              rw [eA] at cA fA hABg hAY
              rw [eBg] at cb fb hABg hBgY
              rw [eY] at hAY hBgY
              simp only [World.setCells, Nat.zero_add, Nat.reduceAdd] at hw29
              have HW29 := Lib.hid hw29
              obtain ⟨v0, g0⟩ := hyb 0 _ rfl
              obtain ⟨v1, g1'⟩ := hyb 1 _ rfl
              obtain ⟨v2, g2⟩ := hyb 2 _ rfl
              obtain ⟨v3, g3⟩ := hyb 3 _ rfl
              obtain ⟨v4, g4⟩ := hyb 4 _ rfl
              obtain ⟨v5, g5⟩ := hyb 5 _ rfl
              obtain ⟨v6, g6⟩ := hyb 6 _ rfl
              obtain ⟨v7, g7⟩ := hyb 7 _ rfl
              obtain ⟨v8, g8⟩ := hyb 8 _ rfl
              have y0 := (HBN28.out 0 _ rfl).1
              have y1 := (HBN28.out 1 _ rfl).1
              have y2 := (HBN28.out 2 _ rfl).1
              have y3 := (HBN28.out 3 _ rfl).1
              have y4 := (HBN28.out 4 _ rfl).1
              have y5 := (HBN28.out 5 _ rfl).1
              have y6 := (HBN28.out 6 _ rfl).1
              have y7 := (HBN28.out 7 _ rfl).1
              have y8 := (HBN28.out 8 _ rfl).1
              clear hf hw29 hwf eY eA eBg hyb
              go_upto_region 29 with fail
              rw [← HW29.out]
              have HBT29 := Lib.hid (HBT28.out.chg HW.out.2.2.2 (fun e => HTZ.out.2 _ e.1 rfl) (Nat.lt_of_lt_of_le HTZ.out.1 (Nat.le_trans HK24Z.out HZ28.out)))
              have t0 := (HBT29.out 0 _ rfl).1
              have hend : IntKind.i64.wrap (h' + t.hours) = h' + t.hours := IntWalk.i64_in _ (by have := HH.out; have := HTK.out; have := this.1; have := HTK.out.2.1; omega)
              clear v0 g0 v1 g1' v2 g2 v3 g3 v4 g4 v5 g5 v6 g6 v7 g7 v8 g8 y0 y1 y2 y3 y4 y5 y6 y7 y8 cA fA cb fb hABg hAY hBgY HW29 n0 n1 hNl
              go_upto_region 30 with fail
              clear hend t0
              obtain ⟨en, hen⟩ : ∃ e, e = h' + t.hours := ⟨_, rfl⟩
              rw [← hen]
              have HENE := Lib.hid hen
              have hl1 : hs1.length ≤ 40 := by
                have := HML.out
                have := HRK.out
                have := cntB_le l be1
                have := HVT.out.1
                omega
              have HL1 := Lib.hid hl1
              obtain ⟨k, hk⟩ : ∃ k, k = srch en hs1 := ⟨_, rfl⟩
              have hkl : k ≤ hs1.length := by rw [hk]; exact srch_le en hs1
              have HSE := Lib.hid (show Calls Try.prog 31 #[.slice (some ⟨g1, off1, none⟩) hs1.length cap1, .int .i64 en] w29 (RetB (.int .i64 k) w29) from by
                rw [hk]
                exact search_any hs1 _ g1 off1 cap1 en w29 HW.out.2.1.hrs HP1.out.sorted (by omega))
              have HKS := Lib.hid hk
              have HKL := Lib.hid hkl
              clear hen hl1 hk hkl
              go_wp2_with fail
              refine Calls.mono HSE.out ?_
              rintro e w30 ⟨rfl, hb30⟩
              have HX30 := Lib.hid (HW.out.1.later hb30)
              have HD30 := Lib.hid (HW.out.2.1.later hb30)
              have HB30 := Lib.hid (HW.out.2.2.1.trans (hb30.mono HW.out.1.size))
              have HBT30 := Lib.hid (HBT29.out.later hb30)
              clear hb30 HSE
              go_upto_region 31 with fail
              go_cut [79, 130] from 79 to 144 (fun v79 v130 wx => v79 = .int .i64 i ∧ v130 = .bool (decide (en ∉ hs1)) ∧ wx = w30)
              case first => as_aux_lemma =>
                have hsa := srch_all (x := en) HP1.out.sorted
                rw [← HKS.out] at hsa
                by_cases hk : k = hs1.length
                · have HQ := Lib.hid (show decide (en ∉ hs1) = true from decide_eq_true fun hm => by
                    obtain ⟨j, hj, e⟩ := List.getElem_of_mem hm
                    have := hsa.1 j (by omega)
                    rw [ig_lt hj] at this
                    omega)
                  have d1 : ((k : Int) = (hs1.length : Int)) := by omega
                  clear hsa hk
                  go_wp2_with fail
                  go_meet
                  exact ⟨rfl, by rw [HQ.out], rfl⟩
                · have hkl : k < hs1.length := by have := HKL.out; omega
                  have ck := HD30.out.hrs.cell k hkl
                  have n1 : (k : Int) < (hs1.length : Int) := by omega
                  have n0 : (0 : Int) ≤ (k : Int) := by omega
                  have d1 : ¬ ((k : Int) = (hs1.length : Int)) := by omega
                  obtain ⟨z, hz⟩ : ∃ z, z = ig hs1 k := ⟨_, rfl⟩
                  rw [← hz] at ck
                  by_cases he : z = en
                  · have HQ := Lib.hid (show decide (en ∉ hs1) = false from decide_eq_false fun hm => hm (by rw [← he, hz]; exact ig_mem hkl))
                    have HD1 := Lib.hid (show ((k : Int) == (hs1.length : Int)) = false from beq_eq_false_iff_ne.2 d1)
                    subst he
                    clear hsa hk hz
                    go_wp2_with fail
                    go_meet
                    exact ⟨rfl, by rw [HQ.out, HD1.out], rfl⟩
                  · have HQ := Lib.hid (show decide (en ∉ hs1) = true from decide_eq_true fun hm => by
                      obtain ⟨j, hj, e⟩ := List.getElem_of_mem hm
                      rw [← ig_lt hj] at e
                      rcases Nat.lt_trichotomy j k with h1 | h1 | h1
                      · have := hsa.1 j h1; omega
                      · subst h1; exact he (by rw [hz, e])
                      · have h2 := hsa.2 k (Nat.le_refl _) hkl
                        have h3 : ig hs1 k < ig hs1 j := by
                          rw [ig_lt hkl, ig_lt hj]
                          exact List.pairwise_iff_getElem.1 HP1.out.sorted k j hkl hj h1
                        omega)
                    have HZ := Lib.hid (show (z != en) = true from bne_iff_ne.2 he)
                    clear hsa hk hz
                    go_wp2_with fail
                    go_meet
                    exact ⟨rfl, by rw [HQ.out, HZ.out, Bool.or_true], rfl⟩
              case rest => as_aux_lemma =>
              obtain ⟨rfl, rfl, rfl⟩ := hcut
              (try clear HBT30); (try clear HBT29); (try clear HBT28); (try clear HBN28); (try clear HBT27); (try clear HBN); (try clear HBT26); (try clear HBT); (try clear HW); (try clear HK27); (try clear HK26); (try clear HK24); (try clear HFI); (try clear HAI24); (try clear HAI)
              go_upto_if 130 with fail
              go_cut [12, 79] from 79 to 144 (fun v12 v79 wx => v79 = .int .i64 i ∧ ∃ (hs2 : List Int) (g2 off3 cap3 : Nat), v12 = .slice (some ⟨g2, off3, none⟩) hs2.length cap3 ∧ Fix wx w.heap.size kk sa q sc bs (st1.set i h') (be1.set i true) dn2 y ∧ Dyn wx w.heap.size kk hs2 g2 off3 cap3 F1 nm1 ∧ Below w.heap.size w wx ∧ hs2.Pairwise (· < ·) ∧ (∀ z, z ∈ hs2 ↔ z = en ∨ z ∈ hs1) ∧ hs2.length ≤ hs1.length + 1)
              case first => as_aux_lemma =>
                by_cases hm : en ∈ hs1
                · have HM1 := Lib.hid hm
                  rw [show decide (en ∉ hs1) = false from decide_eq_false fun h => h hm]
                  clear hm
                  go_wp2_with fail
                  go_meet
                  refine ⟨rfl, hs1, g1, off1, cap1, rfl, HX30.out, HD30.out, HB30.out, HP1.out.sorted, fun z => ⟨.inr, fun h => ?_⟩, by omega⟩
                  rcases h with rfl | h
                  · exact HM1.out
                  · exact h
                · have HM1 := Lib.hid hm
                  rw [show decide (en ∉ hs1) = true from decide_eq_true hm]
                  have hbA : Below wc.heap.size wc (wc.alloc (.cells #[.int .i64 en] 3)) := (Below.refl _ _).alloc (Nat.le_refl _) _
                  have HX31 := Lib.hid (HX30.out.later hbA)
                  have HD31 := Lib.hid (HD30.out.later hbA)
                  have HB31 := Lib.hid (HB30.out.trans (hbA.mono HX30.out.size))
                  have HIN := Lib.hid (show Calls Try.prog 32 #[.slice (some ⟨g1, off1, none⟩) hs1.length cap1, .int .i64 k, .slice (some ⟨wc.heap.size, 0, none⟩) 1 1] (wc.alloc (.cells #[.int .i64 en] 3)) (InsTo (wc.alloc (.cells #[.int .i64 en] 3)) w.heap.size g1 k en hs1) from
                    insert_any hs1 w.heap.size g1 off1 cap1 k wc.heap.size en _ HD31.out.hrs HKL.out (by have := HL1.out; omega) HX31.out.size (BoxAt.new wc [.int .i64 en] 3 0 _ rfl).1 (fun j => World.frozen?_alloc_new _ _ _ _) (by have := HD30.out.hrs.lt; omega))
                  clear hm hbA
                  go_wp2_with fail
                  refine Calls.mono HIN.out ?_
                  rintro e w32 ⟨g3, off3, cap3, rfl, hh, hc, hg⟩
                  have HH32 := Lib.hid hh
                  have HC32 := Lib.hid hc
                  have HG32 := Lib.hid hg
                  clear hh hc hg HIN
                  go_wp2_with fail
                  go_meet
                  refine ⟨rfl, ins k en hs1, g3, off3, cap3, by rw [ins_len HKL.out], HX31.out.chg HC32.out (fun b hb e => HD31.out.gk (by rw [← e]; exact hb)), HD31.out.ins HX31.out.lt HH32.out HC32.out HG32.out, HB31.out.trans (HC32.out.below HX31.out.size fun j e => by rw [e]; exact HD31.out.hrs.lo), ?_, fun z => ins_mem, by rw [ins_len HKL.out]; exact Nat.le_refl _⟩
                  rw [HKS.out]
                  exact ins_sorted HP1.out.sorted HM1.out
              case rest => as_aux_lemma =>
              obtain ⟨rfl, hs2, g2, off3, cap3, rfl, hfx2, hdy2, hbl2, hso2, hme2, hle2⟩ := hcut
              obtain ⟨ea, ec, hlk, hei, heo⟩ := hdy2.look en
              have hkM : kk.M = M := by rw [HKK.out]
              have hm2 := hdy2.m
              rw [hkM] at hm2
              have HM2 := Lib.hid hm2
              have HKEY := Lib.hid (key_int en (by rw [HENE.out]; have := HH.out; have := HTK.out.1; have := HTK.out.2.1; omega))
              have HLK := Lib.hid hlk
              have HEO := Lib.hid heo
              have HX33 := Lib.hid hfx2
              have HD33 := Lib.hid hdy2
              have HB33 := Lib.hid hbl2
              have HSO := Lib.hid hso2
              have HME := Lib.hid hme2
              have HLE := Lib.hid hle2
              have HGL := Lib.hid (show (getE F1 en).length ≤ 40 from by
                have := HK1.out.en.len en
                have := HVT.out.1
                omega)
              have hbA : Below wc.heap.size wc (wc.alloc (.cells #[.int .i64 i] 3)) := (Below.refl _ _).alloc (Nat.le_refl _) _
              have HBA := Lib.hid hbA
              clear hfx2 hdy2 hbl2 hso2 hme2 hle2 hlk hei heo hm2 hbA
              obtain ⟨E, hE⟩ : ∃ E, E = getE F1 en := ⟨_, rfl⟩
              rw [← hE] at HLK HEO HGL
              have HEE := Lib.hid hE
              clear hE
              go_upto_region 34 with (first | (at_lookup; refine wpList_look rfl _ _ _ rfl 3 23 Kint Try.underlying53 (.slice none 0 0) Try.zeroValue23 M nm1 (endF F1) rfl HM2.out (.int .i64 en) (.int .i64 en) rfl HKEY.out ?_; rw [HLK.out]) | (at_builtin; go_loud (refine append_int_at _ rfl _ _ rfl w.heap.size (.slice ea E.length ec) E (i : Int) rfl (HEO.out.later HBA.out) wc.heap.size 1 rfl (BoxAt.new wc [.int .i64 i] 3 0 _ rfl).1 (by have := HGL.out; omega) (Nat.le_trans HX33.out.size HBA.out.size) ?_; intro v5 w5 ho5 hg5 hn5; have HO5 := Lib.hid ho5; have HG5 := Lib.hid hg5; have HN5 := Lib.hid hn5; clear ho5 hg5 hn5; have HM5 := Lib.hid ((HD33.out.later HBA.out).mAfter HLK.out HG5.out); rw [hkM] at HM5)) | (at_mapUpdate; go_loud (refine wpList_put rfl _ _ _ _ rfl 3 23 Kint Try.underlying53 M nm1 (endF F1) rfl HM5.out (.int .i64 en) v5 (.int .i64 en) rfl rfl HKEY.out ?_; intro w6 hm6 hg6 hs6; have HM6 := Lib.hid hm6; have HG6 := Lib.hid hg6; clear hm6 hg6 hs6)))
              rw [← HLK.out] at HG5 HN5
              rw [HEE.out] at HO5
              rw [← hkM] at HM6 HG6
              have hdi : bg dn2 i = false := by
                have h := HP1.out.dnE i HIL.out
                rw [← HBI.out] at h
                exact h
              have hall : allDone dn2 (tg l i).after = true := by
                have h := HWT.out
                rw [HTE.out] at h
                simpa using h
              have hfit : fitsBy l s (runB be1 dn2) i := Classical.byContradiction fun hno => by
                have h := HFT.out
                rw [HYE.out] at h
                rw [fitsB_no hno] at h
                cases h
              have henE : en = h' + (tg l i).hours := by rw [HENE.out, HTE.out]
              obtain ⟨F2, nm2, hk2⟩ := K3.begin (hour := h') HVT.out HIL.out HP1.out.stl HP1.out.bel HBI.out.symm hdi henE HYE.out HK1.out.en (HX33.out.later HBA.out) (HD33.out.later HBA.out) (HB33.out.trans (HBA.out.mono HX33.out.size)) HO5.out HG5.out HN5.out HM6.out HG6.out
              have hpi2 := HP1.out.begin HVT.out HIL.out HBI.out.symm hall hfit HSO.out (fun z => by rw [← henE]; exact HME.out z)
              have hcs := cntB_set HP1.out.bel HIL.out HBI.out.symm
              have HP2 := Lib.hid hpi2
              have HK2 := Lib.hid hk2
              have HCS := Lib.hid hcs
              clear hdi hall hfit henE hk2 hpi2 hcs hkM
              go_wp2_with fail
              go_roundg (gk - 1)
              case measure => omega
              case rel => exact ⟨i + 1, st1.set i h', be1.set i true, hs2, g2, off3, cap3, F2, nm2, by omega, by omega, by go_num, rfl, HP2.out, HK2.out, by have := HCS.out; have := HLE.out; have := HRK.out; omega⟩
            ·
              --<
              obtain rfl : i = n := by omega
              have hcb : cntB l be1 ≤ i := by rw [HN.out]; exact cntB_le l be1
              have HCB := Lib.hid hcb
              clear hcb hlt
              go_wp2_with fail
              go_roundg (i + hs1.length + 1 - cntB l be1)
              case measure => exact HGK2.out _ _ HCB.out HRK.out
              case rel =>
                have hk := HK1.out
                refine ⟨st1, be1, dn2, hs1, g1, off1, cap1, F1, nm1, rfl, ?_, .inl ⟨h', by rw [← HN.out]; exact HP1.out⟩, hk.en, hk.fx, hk.dy, hk.bl⟩
                have := HCB.out
                have := HML.out
                have := HRK.out
                omega
              -->
end Go.Proofs.Ytoblmecgnpoogaa
