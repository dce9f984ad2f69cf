


/- The reference: Accept. -/
import Derived.Test.YtghdfoolieagfaaJdgRi
namespace Go.Proofs.Ytghdfoolieagfaa
open Go.RowKit

set_option maxRecDepth 100000 in
set_option maxHeartbeats 4000000 in
theorem raccept_any (g : Gm) (sa da pa : Option Addr) (sc dc pc : Nat) (plan : List Pos) (pv : Nat → Value) (bound : Int) (w : World) (hG : GmAt w g sa da) (hF : GmFew g) (hP : PlanAt w pa plan pv) (hPF : PlanFew plan) (hpi : ∀ p ∈ plan, PosIn p) :
    Calls Try.prog 11 #[gmV g sa sc da dc, .slice pa plan.length pc, .int .i64 bound] w (RetB (.bool (accB g plan bound)) w) := by
  have HG := Lib.hid hG
  have HF := Lib.hid hF
  have HP := Lib.hid hP
  have HPF := Lib.hid hPF
  have HPI := Lib.hid hpi
  obtain ⟨np, hnp⟩ : ∃ n, n = plan.length := ⟨_, rfl⟩
  obtain ⟨ns, hns⟩ : ∃ n, n = g.starts.length := ⟨_, rfl⟩
  obtain ⟨nd, hnd⟩ : ∃ n, n = g.deps.length := ⟨_, rfl⟩
  obtain ⟨gb, hgb⟩ : ∃ n, n = g.budget := ⟨_, rfl⟩
  have HNP := Lib.hid hnp
  have HNS := Lib.hid hns
  have HND := Lib.hid hnd
  have HGB := Lib.hid hgb
  have hnp1 : np ≤ 1000 := by rw [hnp]; exact hPF.n
  have hns1 : ns ≤ 1000 := by rw [hns]; exact hF.s
  have HVA := Lib.hid (show ∀ wy, Below w.heap.size w wy → Calls Try.prog 16 #[.agg #[.slice sa ns sc, .slice da nd dc, .int .i64 gb]] wy (RetB (.bool (vgB g)) wy) from fun wy hy => by
    have h := rvalid_any g sa da sc dc wy (hG.later hy) hF
    unfold gmV at h
    rw [← hns, ← hnd, ← hgb] at h
    exact h)
  have HBE := Lib.hid (show ∀ wy, Below w.heap.size w wy → Calls Try.prog 12 #[.agg #[.slice sa ns sc, .slice da nd dc, .int .i64 gb]] wy (PosR (posB g) wy) from fun wy hy => by
    have h := begin_any g sa da sc dc wy (hG.s.later hy) hF.s
    unfold gmV at h
    rw [← hns, ← hnd, ← hgb] at h
    exact h)
  obtain ⟨ac, hac⟩ : ∃ ac, ac = accB g plan bound := ⟨_, rfl⟩
  have HAC := Lib.hid hac
  unfold gmV
  rw [← hnp, ← hns, ← hnd, ← hgb, ← hac]
  clear hac hG hF hP hPF hpi hnp hns hnd hgb
  go_enter Try.func11, Try.ntmps11
  go_upto_region 1 with fail
  obtain ⟨wX, X, hX, hbX, hBX, hwX⟩ : ∃ wX X, X = w.heap.size ∧ Below w.heap.size w wX ∧ BoxAt wX X [.slice sa ns sc, .slice da nd dc, .int .i64 gb] ∧ wX = w.alloc (.cells #[.slice sa ns sc, .slice da nd dc, .int .i64 gb] 25) := ⟨_, _, rfl, (Below.refl _ _).alloc (Nat.le_refl _) _, BoxAt.new w _ _, rfl⟩
  rw [← hwX, ← hX]
  have hXl : X < wX.heap.size := by rw [hwX, World.size_alloc]; omega
  have HBW := Lib.hid hbX
  have HBX := Lib.hid hBX
  have y0 := (hBX 0 _ rfl).1
  have y1 := (hBX 1 _ rfl).1
  have y2 := (hBX 2 _ rfl).1
  clear hX hbX hBX hwX
  go_wp2_with fail
  refine Calls.mono (HVA.out wX HBW.out) ?_
  rintro e w1 ⟨rfl, hb1⟩
  have HB1 := Lib.hid (HBW.out.trans (hb1.mono HBW.out.size))
  have z0 := cell_later hb1 y0
  have z1 := cell_later hb1 y1
  have z2 := cell_later hb1 y2
  have hX1 : X < w1.heap.size := Nat.lt_of_lt_of_le hXl hb1.size
  clear hb1 y0 y1 y2 hXl
  by_cases hv : VG g
  case neg =>
    have HE := Lib.hid (show ac = false from HAC.out.trans <| accB_false fun h => hv h.1)
    rw [vgB_false hv]
    clear hv
    go_wp2_with fail
    go_ret
    exact retB (vbool HE.out.symm) HB1.out
  rw [vgB_true hv]
  have HV := Lib.hid hv
  clear hv
  by_cases hd : nd = 0
  · have hd' : g.deps = [] := List.length_eq_zero_iff.1 (by rw [← HND.out]; exact hd)
    have e0 : (nd == 0) = true := by simpa using hd
    have e0' : ((nd : Int) == (0 : Int)) = true := by simp; omega
    by_cases hb0 : 0 ≤ bound
    · have HE := Lib.hid (show ac = true from HAC.out.trans <| accB_true ⟨HV.out, fun _ => hb0, fun h => absurd hd' h⟩)
      have e1 : decide (0 ≤ bound) = true := decide_eq_true hb0
      clear hb0 hd hd'
      go_wp2_with fail
      go_ret
      exact retB (vbool HE.out.symm) HB1.out
    · have HE := Lib.hid (show ac = false from HAC.out.trans <| accB_false fun h => hb0 (h.2.1 hd'))
      have e1 : decide (0 ≤ bound) = false := decide_eq_false hb0
      clear hb0 hd hd'
      go_wp2_with fail
      go_ret
      exact retB (vbool HE.out.symm) HB1.out
  have hdne : g.deps ≠ [] := fun e => hd (by rw [HND.out, e]; rfl)
  have HDN := Lib.hid hdne
  have e0 : (nd == 0) = false := by simpa using hd
  have e0' : ((nd : Int) == (0 : Int)) = false := by simp; omega
  clear hdne hd
  go_wp2_with fail
  refine Calls.mono (HBE.out w1 HB1.out) ?_
  rintro e w4 ⟨qa, qc, fa, fc, rfl, hps, hb4⟩
  have HB4 := Lib.hid (HB1.out.trans (hb4.mono HB1.out.size))
  have y0 := cell_later hb4 z0
  have y1 := cell_later hb4 z1
  have y2 := cell_later hb4 z2
  have hX4 : X < w4.heap.size := Nat.lt_of_lt_of_le hX1 hb4.size
  have HPS := Lib.hid hps
  obtain ⟨q, hq⟩ : ∃ q, q = posB g := ⟨_, rfl⟩
  have HMA := Lib.hid (show Calls Try.prog 25 #[psV (posB g) qa qc fa fc] w4 (RetM (posB g) qa fa w4) from made_ref (posB g) qa fa qc fc w4 hps (by show (List.replicate g.starts.length false).length ≤ 1000; rw [List.length_replicate, ← HNS.out]; exact hns1) (by show g.budget ≤ 1000; have := HV.out.2.2.2.1; omega))
  clear hb4 z0 z1 z2 hps hX1
  rw [← hq] at HMA ⊢
  have HQ := Lib.hid hq
  clear hq
  go_wp2_with fail
  refine Calls.mono HMA.out ?_
  rintro e w6 ⟨aM, cM, l, rfl, hmap, hown, hmd, hb6⟩
  have HB6 := Lib.hid (HB4.out.trans (hb6.mono HB4.out.size))
  have HMAP := Lib.hid hmap
  have HMD := Lib.hid hmd
  obtain ⟨ml, hml⟩ : ∃ n, n = l.length := ⟨_, rfl⟩
  have HML := Lib.hid hml
  have hml1 : ml ≤ 1000 := by
    have h1 := congrArg List.length hmap
    rw [List.length_map] at h1
    have h2 : (hits q.st).length ≤ q.st.failed.length := hitU_len q.st q.st.failed.length
    have h3 : q.st.failed.length = g.starts.length := by rw [HQ.out]; show (List.replicate g.starts.length false).length = _; rw [List.length_replicate]
    unfold madeL at h1
    rw [List.length_cons, List.length_map] at h1
    have := HV.out.1
    omega
  have hml0 : 0 < l.length := by
    have h1 := congrArg List.length hmap
    rw [List.length_map] at h1
    unfold madeL at h1
    rw [List.length_cons] at h1
    omega
  obtain ⟨_, _, e2, _, _, hatM, hwhM⟩ := (show EQ.Own w6 w4.heap.size (.slice aM l.length cM) l from hown).at
  simp only [Value.slice.injEq, true_and] at e2
  obtain ⟨rfl, rfl⟩ := e2
  obtain ⟨mb, rfl, hmb1, hmb2⟩ : ∃ mb, aM = some ⟨mb, 0, none⟩ ∧ w4.heap.size ≤ mb ∧ mb < w6.heap.size := by
    rcases hwhM with ⟨_, _, h⟩ | h
    · rw [h] at hml0; simp at hml0
    · exact h
  have HMB := Lib.hid hatM
  have z0 := cell_later hb6 y0
  have z1 := cell_later hb6 y1
  have z2 := cell_later hb6 y2
  have hX6 : X < w6.heap.size := Nat.lt_of_lt_of_le hX4 hb6.size
  have HB46 := Lib.hid hb6
  have hz46 := hb6.size
  rw [← hml]
  have hmk := mk_bools np (by omega)
  clear hmap hmd hown hb6 hml hml0 hatM hwhM y0 y1 y2 hX4
  go_upto_region 8 with fail
  obtain ⟨w7, d0, hd, hb7, hTY, hBD, hw7⟩ : ∃ w7 d0, d0 = w6.heap.size ∧ Below w6.heap.size w6 w7 ∧ IsTy w7 d0 4 ∧ BoxAt w7 d0 ((List.replicate plan.length false).map Value.bool) ∧ w7 = w6.alloc (.cells (Array.replicate np (Value.bool false)) 4) := ⟨_, _, rfl, (Below.refl _ _).alloc (Nat.le_refl _) _, ⟨_, heap_alloc_new w6 _⟩, by
    have h := BoxAt.new w6 (List.replicate np (Value.bool false)) 4
    rw [List.toArray_replicate] at h
    rw [List.map_replicate, ← HNP.out]
    exact h, rfl⟩
  rw [← hw7, ← hd]
  have HDE := Lib.hid hd
  have hXd : ¬ X = d0 := by omega
  have hmbd : ¬ mb = d0 := by omega
  have HB7 := Lib.hid (HB6.out.trans (hb7.mono HB6.out.size))
  have HTY := Lib.hid hTY
  have HBD := Lib.hid hBD
  have hd7 : d0 < w7.heap.size := hTY.lt
  have y0 := cell_later hb7 z0
  have y1 := cell_later hb7 z1
  have y2 := cell_later hb7 z2
  have HMB7 := Lib.hid (HMB.out.later hb7)
  have HLOW := Lib.hid (show ∀ w', Chg (fun k => k = d0) w7 w' → Below w.heap.size w w' from fun w' hc => HB7.out.trans (hc.below HB7.out.size fun k hk => by have := HB6.out.size; omega))
  have HCALL := Lib.hid (show ∀ (j : Nat) (hj : j < l.length) (D' : List Bool) wy, Chg (fun k => k = d0) w7 wy → D'.length = plan.length → IsTy wy d0 4 → BoxAt wy d0 (D'.map Value.bool) → Calls Try.prog 26 #[.agg #[.slice sa ns sc, .slice da nd dc, .int .i64 gb], .slice pa np pc, .agg #[.int .i64 l[j].1.turn, .slice l[j].2.1 l[j].1.starts.length l[j].2.2.1, .slice l[j].2.2.2.1 l[j].1.failed.length l[j].2.2.2.2, .int .i64 l[j].1.budget, .int .i64 l[j].1.choice, .int .i64 l[j].1.bound], .int .i64 bound, .slice (some ⟨d0, 0, none⟩) np np] wy (RetG d0 (rgt g plan g.deps.length l[j].1.st bound D') wy) from fun j hj D' wy hc hD' hty hbx => by
    have hm := HMD.out l[j] (List.getElem_mem hj)
    have hxm : l[j].1.st ∈ madeL (beginS g) := by
      rw [← posB_st, ← HQ.out, ← HMAP.out]
      exact List.mem_map.2 ⟨_, List.getElem_mem hj, rfl⟩
    have hxt : l[j].1.st.turn = 0 := by
      rcases mem_made.1 hxm with h | ⟨v, _, _, _, h⟩ <;> rw [h] <;> rfl
    have hst : l[j].1.starts = q.starts := hm.st
    have hPSq : PsAt w4 q qa fa := by rw [HQ.out]; exact HPS.out
    have hb47 : Below w4.heap.size w4 w7 := HB46.out.trans (hb7.mono hz46)
    have hsS : IntsS (fun b => b ≠ d0) wy l[j].2.1 l[j].1.starts := by
      rw [hm.a, hst]
      have h1 := ((IntsS.of hPSq.s).later hb47).chg hc (fun b hb => by omega)
      exact h1.mono (fun b hb => by omega)
    have hsF : BoolsS (fun b => b ≠ d0) wy l[j].2.2.2.1 l[j].1.failed := by
      rcases hm.f with ⟨h1, h2⟩ | ⟨F, h1, h2, h3, h4⟩
      · rw [h1, h2]
        have h5 := ((BoolsS.of hPSq.f).later hb47).chg hc (fun b hb => by omega)
        exact h5.mono (fun b hb => by omega)
      · intro r hr'
        have hFl := h3.lt
        have hFd : ¬ F = d0 := by omega
        refine ⟨F, 0, h1, hFd, ?_⟩
        rw [Nat.zero_add, bg_lt hr']
        exact hc.cell ((h4.later hb7) r _ (by rw [List.getElem?_map, List.getElem?_eq_getElem hr']; rfl)).1 hFd
    have h1 := right_any g plan pv sa da pa sc dc pc w HG.out HF.out HV.out HP.out HPF.out HPI.out g.deps.length l[j].1 l[j].2.1 l[j].2.2.2.1 l[j].2.2.1 l[j].2.2.2.2 bound D' d0 np wy ⟨by have := HB6.out.size; omega, HLOW.out wy hc, hsS, hsF, (Inv.begin HV.out HDN.out).made hxm, by
      rw [show l[j].1.turn = l[j].1.st.turn from rfl, hxt]
      omega, hD', hty, hbx⟩
    unfold gmV psV at h1
    rw [← HNP.out, ← HNS.out, ← HND.out, ← HGB.out] at h1
    rw [HND.out] at h1 ⊢
    exact h1)
  have HACC := Lib.hid (show ac = (rgL (fun x D => rgt g plan g.deps.length x bound D) (l.map (fun x : PA => x.1.st)) (List.replicate plan.length false)).1 from by
    rw [HAC.out, ← rgt_acc HV.out HDN.out bound, HMAP.out, HQ.out, posB_st])
  clear hw7 hd hb7 hTY hBD z0 z1 z2
  go_loopg [9] (ml + 1) (fun n v9 wr => ∃ (j : Nat) (D' : List Bool), j ≤ ml ∧ n + j = ml + 1 ∧ v9 = .int .i64 j ∧ Chg (fun k => k = d0) w7 wr ∧ IsTy wr d0 4 ∧ BoxAt wr d0 (D'.map Value.bool) ∧ D'.length = plan.length ∧ ac = (rgL (fun x D => rgt g plan g.deps.length x bound D) ((l.map (fun x : PA => x.1.st)).drop j) D').1)
  case atStart => exact ⟨0, _, by omega, by omega, rfl, Chg.refl _ _, HTY.out, HBD.out, List.length_replicate .., HACC.out⟩
  case round =>
    obtain ⟨j, D', hj, hnj, rfl, hch, hty, hbx, hlD, hrr⟩ := hrel
    have HCH := Lib.hid hch
    have HTYJ := Lib.hid hty
    have HBXJ := Lib.hid hbx
    have HLD := Lib.hid hlD
    have HRR := Lib.hid hrr
    have b0 := hch.cell y0 hXd
    have b1 := hch.cell y1 hXd
    have b2 := hch.cell y2 hXd
    have hzr := hch.size
    have hdr : d0 < wr.heap.size := hty.lt
    clear hty hbx hlD hrr
    by_cases hlt2 : j < ml
    · have hjL : j < l.length := by have := HML.out; omega
      have hrng := HMB7.out.range hjL
      rw [show 0 + j * EQ.S = j * 6 from Nat.zero_add _] at hrng
      have hdr2 : (l.map (fun x : PA => x.1.st)).drop j = l[j].1.st :: (l.map (fun x : PA => x.1.st)).drop (j + 1) := by
        rw [List.drop_eq_getElem_cons (by rw [List.length_map]; exact hjL), List.getElem_map]
      have hcl := HCALL.out j hjL D'
      obtain ⟨x, hx⟩ : ∃ x, x = l[j] := ⟨_, rfl⟩
      rw [← hx] at hrng hdr2 hcl
      have x0 := hch.cell (hrng 0 _ rfl) hmbd
      have x1 := hch.cell (hrng 1 _ rfl) hmbd
      have x2 := hch.cell (hrng 2 _ rfl) hmbd
      have x3 := hch.cell (hrng 3 _ rfl) hmbd
      have x4 := hch.cell (hrng 4 _ rfl) hmbd
      have x5 := hch.cell (hrng 5 _ rfl) hmbd
      rw [Nat.add_zero] at x0
      obtain ⟨r1, hr1⟩ : ∃ r1, r1 = rgt g plan g.deps.length x.1.st bound D' := ⟨_, rfl⟩
      rw [← hr1] at hcl
      have hrl : r1.2.length = plan.length := by rw [hr1, rgt_len]; exact HLD.out
      have hr2 : ac = (if r1.1 = true then rgL (fun x D => rgt g plan g.deps.length x bound D) ((l.map (fun x : PA => x.1.st)).drop (j + 1)) r1.2 else (false, r1.2)).1 := by
        rw [HRR.out, hdr2, hr1]
        rfl
      obtain ⟨rb, rD⟩ := r1
      simp only at hrl hr2
      have HCL := Lib.hid (show ∀ wy, Below wr.heap.size wr wy → Calls Try.prog 26 #[.agg #[.slice sa ns sc, .slice da nd dc, .int .i64 gb], .slice pa np pc, .agg #[.int .i64 x.1.turn, .slice x.2.1 x.1.starts.length x.2.2.1, .slice x.2.2.2.1 x.1.failed.length x.2.2.2.2, .int .i64 x.1.budget, .int .i64 x.1.choice, .int .i64 x.1.bound], .int .i64 bound, .slice (some ⟨d0, 0, none⟩) np np] wy (RetG d0 (rb, rD) wy) from fun wy hy => hcl wy (HCH.out.trans (Chg.of_below hy)) HLD.out (HTYJ.out.block (hy.block d0 hdr)) (HBXJ.out.later hy))
      have HS19 := Lib.hid (show ∀ wy, Below wr.heap.size wr wy → (wy.cell? ⟨X, 0, none⟩ = some (.slice sa ns sc) ∧ wy.cell? ⟨X, 1, none⟩ = some (.slice da nd dc) ∧ wy.cell? ⟨X, 2, none⟩ = some (.int .i64 gb)) ∧ (wy.cell? ⟨mb, j * 6, none⟩ = some (.int .i64 x.1.turn) ∧ wy.cell? ⟨mb, j * 6 + 1, none⟩ = some (.slice x.2.1 x.1.starts.length x.2.2.1) ∧ wy.cell? ⟨mb, j * 6 + 2, none⟩ = some (.slice x.2.2.2.1 x.1.failed.length x.2.2.2.2) ∧ wy.cell? ⟨mb, j * 6 + 3, none⟩ = some (.int .i64 x.1.budget) ∧ wy.cell? ⟨mb, j * 6 + 4, none⟩ = some (.int .i64 x.1.choice) ∧ wy.cell? ⟨mb, j * 6 + 5, none⟩ = some (.int .i64 x.1.bound)) from fun wy hy => ⟨⟨cell_later hy b0, cell_later hy b1, cell_later hy b2⟩, cell_later hy x0, cell_later hy x1, cell_later hy x2, cell_later hy x3, cell_later hy x4, cell_later hy x5⟩)
      have HRL := Lib.hid hrl
      have HR2 := Lib.hid hr2
      have p1 : (j : Int) < (ml : Int) := by omega
      have p0 : (0 : Int) ≤ (j : Int) := by omega
      clear hch hrng hdr2 hcl hx x0 x1 x2 x3 x4 x5 hr1 hrl hr2
      go_wp2_with fail
      refine wp_flow_j (fun β L' w' => (L' 8 = false → Below wr.heap.size wr w') ∧ (L' 8 = true → Chg (fun k => k = d0) wr w' ∧ IsTy w' d0 4 ∧ BoxAt w' d0 (rD.map Value.bool))) (by kernel_rfl) (by kernel_rfl) ?h19 ?_
      case h19 => exact ⟨fun _ => (Below.refl _ _).drew, fun e => (by cases e)⟩
      iterate 8 (((with_reducible refine FlowJ.pure (v := ?_) ?_ ?_ ?_ ?_); rotate_left 1; (focus (intro _; rfl)); (focus (intro β L' w' hJ hat; (try dsimp only at hJ); (try dsimp only); simpa only [setL, Nat.reduceEqDiff, if_false] using hJ)); (focus (intro β L' w' hJ hat; (try dsimp only at hJ); ((have n8 := hat.not (j := 8) (by kernel_rfl)); obtain ⟨⟨f0, f1, f2⟩, v0, v1, v2, v3, v4, v5⟩ := HS19.out _ (hJ.1 n8)); go_simp; (try with_reducible rfl); done)); (try simp only [Act.put, List.setIfInBounds_toArray, List.set_cons_zero, List.set_cons_succ, Nat.reduceAdd])))
      ((with_reducible refine FlowJ.call (v := ?_) ?_ ?_ ?_); rotate_left 1; (focus (intro _; rfl)); (focus (intro β L' w' hJ hat K' hK; (try dsimp only at hJ); ((have n8 := hat.not (j := 8) (by kernel_rfl)); go_simp; go_at_call 26; refine Calls.mono (HCL.out w' (hJ.1 n8)) ?_; rintro e w'' ⟨rfl, hc, ht, hb⟩; refine hK.out _ ?_; simp only [setL, if_true]; exact ⟨fun e => (by cases e), fun _ => ⟨(Chg.of_below (hJ.1 n8)).trans hc, ht, hb⟩⟩))); (try simp only [Act.put, List.setIfInBounds_toArray, List.set_cons_zero, List.set_cons_succ, Nat.reduceAdd]))
      ((with_reducible refine FlowJ.pure (v := ?_) ?_ ?_ ?_ ?_); rotate_left 1; (focus (intro _; rfl)); (focus (intro β L' w' hJ hat; (try dsimp only at hJ); (try dsimp only); simpa only [setL, Nat.reduceEqDiff, if_false] using hJ)); (focus (intro β L' w' hJ hat; (try dsimp only at hJ); skip; go_simp; (try with_reducible rfl); done)); (try simp only [Act.put, List.setIfInBounds_toArray, List.set_cons_zero, List.set_cons_succ, Nat.reduceAdd]))
      refine FlowJ.stop ?_
      dsimp only
      intro β2 w9 hJ
      obtain ⟨hc9, ht9, hb9⟩ := hJ.2 trivial
      have HC9 := Lib.hid (HCH.out.trans hc9)
      have HT9 := Lib.hid ht9
      have HB9 := Lib.hid hb9
      clear hJ hc9 ht9 hb9 b0 b1 b2
      cases rb
      · have HE := Lib.hid (show ac = false from HR2.out)
        go_wp2_with fail
        go_ret
        exact retB (vbool HE.out.symm) (HLOW.out w9 HC9.out)
      · go_wp2_with fail
        go_roundg (ml - j)
        case measure => omega
        case rel => exact ⟨j + 1, rD, by omega, by omega, by go_num, HC9.out, HT9.out, HB9.out, HRL.out, HR2.out⟩
    · obtain rfl : j = ml := by omega
      have HE := Lib.hid (show ac = true from by
        rw [HRR.out, List.drop_of_length_le (by rw [List.length_map, ← HML.out]; exact Nat.le_refl _)]
        rfl)
      clear hch
      go_wp2_with fail
      go_ret
      exact retB (vbool HE.out.symm) (HLOW.out wr HCH.out)
end Go.Proofs.Ytghdfoolieagfaa
