




/- For every small game: the plan is strictly ordered; each choice is possible; each move after a position leads to a position of the plan; the bound is what is lost and the greatest bound of these; the greatest bound of the first moves is the value (at most 5 departures and 3 vehicles). -/
import Derived.Test.YtlkknoooeldomaaGamPl
import Derived.Test.YtlkknoooeldomaaLift
import Derived.Laws.MakeOwn
namespace Go.Proofs.Ytlkknoooeldomaa
open Go.ChangeShapes Go.WideShapes Go.ChangeAt Go.RowKit Go.Joins
namespace GamePlans

def possB (qs : List Int) (qf : List Bool) (qc : Int) (l : List Int) : Bool := decide (qc = -1) || l.any fun v => decide (v = qc) && (!bg qf v.toNat && decide (0 < ig qs v.toNat))
theorem info_bool : (Try.prog.info? 4).map (fun i => (i.zero, i.size, i.bytes)) = some (some (.bool false), 1, 1) := by kernel_rfl
theorem mk_bools (n : Nat) (hn : n ≤ 1000000) (w : World) : (Instr.makeSlice 38 (.int .i64 n) (.int .i64 n)).run Try.prog w = .ok (.slice (some ⟨w.heap.size, 0, none⟩) n n) (w.alloc (.cells (List.replicate n (Value.bool false)).toArray 4)) := by
  obtain ⟨i0, hi, hz0, hz1, hz2⟩ := info_parts info_bool
  have hr := run_make (P := Try.prog) w 38 4 i0 (.bool false) Try.underlying38 hi hz0 .i64 .i64 n n (by omega) (Int.le_refl _) (by rw [hz2]; omega) (by omega)
  simp only [Int.toNat_natCast] at hr
  rw [hr]
  have e : madeCells (Value.cells (.bool false)) (n * i0.size) = (List.replicate n (Value.bool false)).toArray := by
    rw [hz1, Nat.mul_one]
    apply Array.toList_inj.1
    exact toList_madeCells_one _ _
  rw [e]
set_option maxRecDepth 100000 in
set_option maxHeartbeats 8000000 in
theorem all (g : Gm) (sa da : Option Addr) (sc dc : Nat) (w : World) (hG : GmAt w g sa da) (hF : GmBig g) : Calls Try.prog 7 #[gmV g sa sc da dc] w (RetB (.bool true) w) := by
  have HG := Lib.hid hG
  have HF := Lib.hid hF
  clear hG hF
  go_enter Try.func7, Try.ntmps7
  go_wp2_with fail
  refine calls_named ?_
  intro w0 hw0
  obtain ⟨hbx, _, hx, _⟩ := alloc1 w [.slice sa g.starts.length sc, .slice da g.deps.length dc, .int .i64 g.budget] 25 w0 hw0
  have HX := Lib.hid hx
  have HBX := Lib.hid hbx
  clear hw0 hx hbx
  refine Calls.mono (head_any w0) ?_
  rintro e w1 ⟨rfl, hb1⟩
  have HB1 := Lib.hid (HBX.out.trans (hb1.mono HBX.out.size))
  have hx1 := HX.out.later hb1
  have HX1 := Lib.hid hx1
  have c0 := (hx1 0 _ rfl).1
  have c1 := (hx1 1 _ rfl).1
  have c2 := (hx1 2 _ rfl).1
  clear hb1 hx1
  go_wp2_with fail
  refine Calls.mono (few_any g sa da sc dc w1 (HG.out.later HB1.out) HF.out) ?_
  rintro e w2 ⟨rfl, hb2⟩
  have HB2 := Lib.hid (HB1.out.trans (hb2.mono HB1.out.size))
  have hx2 := HX1.out.later hb2
  have HX2 := Lib.hid hx2
  clear c0 c1 c2
  have c0 := (hx2 0 _ rfl).1
  have c1 := (hx2 1 _ rfl).1
  have c2 := (hx2 2 _ rfl).1
  clear hb2 hx2
  cases hfew : fewB g
  · clear hfew
    go_wp2_with fail
    go_ret
    exact retB rfl HB2.out
  obtain ⟨hv, hsm, h6, h4⟩ := fewB_of hfew
  have HV := Lib.hid hv
  have HSM := Lib.hid hsm
  have H64 := Lib.hid (And.intro h6 h4)
  have HFW := Lib.hid (VG.few hv)
  have HG2 := Lib.hid (HG.out.later HB2.out)
  clear hfew hv hsm h6 h4
  obtain ⟨n, hn⟩ : ∃ n, n = g.starts.length := ⟨_, rfl⟩
  obtain ⟨nd, hnd⟩ : ∃ n, n = g.deps.length := ⟨_, rfl⟩
  obtain ⟨bu, hbu⟩ : ∃ n, n = g.budget := ⟨_, rfl⟩
  have hn4 : n ≤ 4 := by rw [hn]; exact H64.out.2
  have hnd6 : nd ≤ 6 := by rw [hnd]; exact H64.out.1
  have hb3 : 0 ≤ bu ∧ bu ≤ 3 := by rw [hbu]; exact ⟨HV.out.2.2.1, HV.out.2.2.2.1⟩
  rw [← hn] at c0
  rw [← hnd] at c1
  rw [← hbu] at c2
  have HN := Lib.hid hn
  have HND := Lib.hid hnd
  have HBU := Lib.hid hbu
  clear hn hnd hbu
  rcases Nat.lt_or_ge 5 nd with h5 | h5
  · have e5 : decide ((5 : Int) < (nd : Int)) = true := by simp; omega
    go_wp2_with fail
    go_ret
    exact retB rfl HB2.out
  have e5 : decide ((5 : Int) < (nd : Int)) = false := by simp; omega
  rcases Nat.lt_or_ge 3 n with h3 | h3
  · have e3 : decide ((3 : Int) < (n : Int)) = true := by simp; omega
    go_wp2_with fail
    go_ret
    exact retB rfl HB2.out
  have e3 : decide ((3 : Int) < (n : Int)) = false := by simp; omega
  have hpl := plan_any g sa da sc dc w2 HG2.out HFW.out
  unfold gmV at hpl
  rw [← HN.out, ← HND.out, ← HBU.out] at hpl
  have HPL := Lib.hid hpl
  have HVL := Lib.hid (show ∀ wy, Below w2.heap.size w2 wy → Calls Try.prog 11 #[.agg #[.slice sa n sc, .slice da nd dc, .int .i64 bu]] wy (RetB (.tuple #[.int .i64 (WG g (beginS g)), .int .i64 0]) wy) from fun wy hy => by
    have h := value_any g sa da sc dc wy (HG2.out.later hy) HFW.out
    unfold gmV at h
    rw [← HN.out, ← HND.out, ← HBU.out, valG_ok HV.out HSM.out] at h
    exact h)
  clear hpl
  go_wp2_with fail
  refine Calls.mono HPL.out ?_
  rintro e w4 ⟨hb4, ⟨h, _⟩ | ⟨_, h, _⟩ | ⟨_, _, a, c, l, rfl, hpo, hat, hps, hlc, hcm, hll⟩⟩
  · exact absurd HV.out h
  · exact absurd HSM.out h
  have hpr := hpo.rows HV.out
  have hli : LiI n n w4 a l := ⟨hat, hps, fun x hx => by
    have h := (hpr.dom x hx).1
    have h1 : x.1.starts.length = g.starts.length := h.ls
    have h2 : x.1.failed.length = g.starts.length := h.lf
    rw [HN.out]
    exact ⟨h1, h2⟩⟩
  obtain ⟨ll, hll2⟩ : ∃ x, x = l.length := ⟨_, rfl⟩
  rw [← hll2] at hll hlc ⊢
  have HPR := Lib.hid hpr
  have HLI := Lib.hid hli
  have HLL := Lib.hid hll2
  have HB4 := Lib.hid hb4
  have HX4 := Lib.hid (HX2.out.later hb4)
  have HPO := Lib.hid hpo
  clear hpr hli hll2 hb4 hat hps hpo c0 c1 c2 e5 e3
  go_upto_region 5 with fail
  refine wp_named ?_
  intro w5 hw5
  obtain ⟨hb5, hs5, hx5, _⟩ := alloc1 w4 [.slice a ll c] _ w5 hw5
  have HB5 := Lib.hid (HB4.out.trans (hb5.mono HB4.out.size))
  have HX5 := Lib.hid (HX4.out.later hb5)
  have HL5 := Lib.hid (HLI.out.later hb5)
  have HLB := Lib.hid hx5
  have d0 := (HX5.out 0 _ rfl).1
  have d1 := (HX5.out 1 _ rfl).1
  have d2 := (HX5.out 2 _ rfl).1
  rw [← HN.out] at d0
  rw [← HND.out] at d1
  rw [← HBU.out] at d2
  obtain ⟨V, hV⟩ : ∃ V, V = WG g (beginS g) := ⟨_, rfl⟩
  have HV0 := Lib.hid hV
  rw [← hV] at HVL
  clear hw5 hb5 hs5 hx5 hV
  go_wp2_with fail
  refine Calls.mono (HVL.out w5 HB5.out) ?_
  rintro e w6 ⟨rfl, hb6⟩
  have HB6 := Lib.hid ((HB2.out.trans (HB5.out.mono HB2.out.size)).trans (hb6.mono (Nat.le_trans HB2.out.size HB5.out.size)))
  have HB26 := Lib.hid (HB5.out.trans (hb6.mono HB5.out.size))
  have HX6 := Lib.hid (HX5.out.later hb6)
  have HL6 := Lib.hid (HL5.out.later hb6)
  have HLB6 := Lib.hid (HLB.out.later hb6)
  clear d0 d1 d2 hb6
  have d0 := (HX6.out 0 _ rfl).1
  have d1 := (HX6.out 1 _ rfl).1
  have d2 := (HX6.out 2 _ rfl).1
  have lb := (HLB6.out 0 _ rfl).1
  rw [← HN.out] at d0
  rw [← HND.out] at d1
  rw [← HBU.out] at d2
  rcases Nat.eq_zero_or_pos nd with h0 | h0
  · subst h0
    have hl0 : ll = 0 := by
      have h := HPO.out.p.length_eq
      rw [List.length_map, List.length_map, ← HND.out] at h
      rw [HLL.out, h]
      rfl
    have hV0 : V = 0 := by
      rw [HV0.out]
      exact WG_end (by rw [← HND.out]; exact Int.le_refl _)
    subst hl0
    subst hV0
    go_wp2_with fail
    go_ret
    exact retB rfl HB6.out
  have e0 : ((nd : Int) == (0 : Int)) = false := by simp; omega
  have e0' : ¬ nd = 0 := by omega
  have hmf : ∀ (fn : Fn) (first cap : Array Value) (w : World), (Instr.makeFunc fn first cap).run Try.prog w = .ok (.func fn first cap) w := fun _ _ _ _ => rfl
  have hmk := mk_bools n (by omega)
  have hst : beginS g = (⟨0, g.starts, List.replicate n false, bu, 0, 0⟩ : Pos).st := by
    show (⟨0, g.starts, List.replicate g.starts.length false, g.budget⟩ : St) = _
    rw [HN.out, HBU.out]
    rfl
  have hnd' : (l.map fun x : PA => x.1.st).Nodup := HPR.out.nodup
  have hval : ∀ r ∈ l, r.1.bound = boundB g r.1.st := fun r hr => by rw [HPR.out.pos r hr]; rfl
  have hbB : ∀ x, 0 ≤ boundB g x ∧ boundB g x ≤ 100 := fun x => by have := boundB_in HV.out x; omega
  have hVm : V = maxL ((madeL (beginS g)).map (boundB g)) := HV0.out.trans (WG_on (by show (0 : Int) ≤ 0; omega) (by show (0 : Int) < _; rw [← HND.out]; omega))
  have HAF := Lib.hid (fun (p : Pos) (psa pfa : Option Addr) (psc pfc : Nat) (wy : World) (hy : Below w6.heap.size w6 wy) (hp : PsAt wy p psa pfa) (h1 : p.starts.length = n) (h2 : p.failed.length = n) (h3 : p.budget ≤ 1000) (hin : ∀ y ∈ madeL p.st, ∃ r ∈ l, r.1.st = y) =>
    lafter_any (boundB g) n n l a c w4.heap.size p psa pfa psc pfc wy (by rw [← HLL.out]; exact HLB6.out.later hy) (HL6.out.later hy) (by rw [← HLL.out]; exact hll) hp h1 h2 (by omega) h3 hbB hnd' hval hin)
  have hfst : ∀ wy F, Below w6.heap.size w6 wy → BoxAt wy F (List.replicate n (Value.bool false)) → Calls Try.prog 20 #[.agg #[.int .i64 0, .slice sa n sc, .slice (some ⟨F, 0, none⟩) n n, .int .i64 bu, .int .i64 0, .int .i64 0], .pointer (some ⟨w4.heap.size, 0, none⟩)] wy (RetB (.tuple #[.int .i64 V, .bool true]) wy) := fun wy F hy hb => by
    have hp : PsAt wy (⟨0, g.starts, List.replicate n false, bu, 0, 0⟩ : Pos) sa (some ⟨F, 0, none⟩) := by
      refine ⟨(HG2.out.later (HB26.out.trans (hy.mono HB26.out.size))).s, fun i hi => ⟨F, 0, rfl, ?_⟩⟩
      have hi' : i < n := by simpa using hi
      rw [Nat.zero_add, (hb i (Value.bool false) (by rw [List.getElem?_replicate, if_pos hi'])).1, bg_lt hi]
      simp
    have h := HAF.out ⟨0, g.starts, List.replicate n false, bu, 0, 0⟩ sa (some ⟨F, 0, none⟩) sc n wy hy hp HN.out.symm (by simp) (by show bu ≤ 1000; omega) (fun y hy => by rw [← hst] at hy; exact HPR.out.first (by rw [← HND.out]; exact h0) y hy)
    unfold psV at h
    rw [← hst, ← hVm] at h
    simp only [List.length_replicate, ← HN.out] at h
    exact h
  have HFST := Lib.hid hfst
  clear hst hnd' hval hbB hfst hVm
  go_upto_region 11 with fail
  refine wp_flow_j (fun β L' w' => Below w6.heap.size w6 w' ∧ (L' 6 = true → ∃ F, β 6 = .slice (some ⟨F, 0, none⟩) n n ∧ BoxAt w' F (List.replicate n (Value.bool false)))) (by kernel_rfl) (by kernel_rfl) ?h0 ?_
  case h0 => exact ⟨(Below.refl _ _).drew, fun e => (by cases e)⟩
  iterate 6 (((with_reducible refine FlowJ.pure (v := ?_) ?_ ?_ ?_ ?_); rotate_left 1; (focus (intro _; rfl)); (focus (intro β L' w' hJ hat; (try dsimp only at hJ); (try dsimp only); simpa only [setL, Nat.reduceEqDiff, if_false] using hJ)); (focus (intro β L' w' hJ hat; (try dsimp only at hJ); (have y0 := cell_later hJ.1 d0); go_simp; (try with_reducible rfl); done)); (try simp only [Act.put, List.setIfInBounds_toArray, List.set_cons_zero, List.set_cons_succ, Nat.reduceAdd])))
  ((with_reducible refine FlowJ.ghost ?_ ?_ ?_); (focus (intro _; rfl)); (focus (intro β L' w' hJ hat K' hK; (try dsimp only at hJ); (go_simp; refine hK.out _ _ ?_; simp only [updG, setL, if_true]; exact ⟨hJ.1.alloc hJ.1.size _, fun _ => ⟨_, rfl, BoxAt.new _ _ _⟩⟩))); (try simp only [Act.put, List.setIfInBounds_toArray, List.set_cons_zero, List.set_cons_succ, Nat.reduceAdd]))
  iterate 2 (((with_reducible refine FlowJ.pure (v := ?_) ?_ ?_ ?_ ?_); rotate_left 1; (focus (intro _; rfl)); (focus (intro β L' w' hJ hat; (try dsimp only at hJ); (try dsimp only); simpa only [setL, Nat.reduceEqDiff, if_false] using hJ)); (focus (intro β L' w' hJ hat; (try dsimp only at hJ); (have y0 := cell_later hJ.1 d2); go_simp; (try with_reducible rfl); done)); (try simp only [Act.put, List.setIfInBounds_toArray, List.set_cons_zero, List.set_cons_succ, Nat.reduceAdd])))
  refine FlowJ.pureG (v := fun β => .agg #[.int .i64 0, .slice sa n sc, β 6, .int .i64 bu, .int .i64 0, .int .i64 0]) (fun β k b hk => ?_) (fun β b => rfl) (fun _ => rfl) (fun β L' w' hJ hat => by simpa only [setL, Nat.reduceEqDiff, if_false] using hJ) (fun β L' w' hJ hat => ?_) ?_
  · have : updG β k b 6 = β 6 := updG_ne β b fun e => by subst e; exact Bool.false_ne_true (hk.symm.trans (by kernel_rfl))
    simp only [this]
  · have p6 := hat.pre 6 (by kernel_rfl)
    obtain ⟨F, e6, _⟩ := hJ.2 p6
    rw [e6]
    clear hJ
    go_simp
    (try with_reducible rfl); done
  (try simp only [Act.put, List.setIfInBounds_toArray, List.set_cons_zero, List.set_cons_succ, Nat.reduceAdd])
  ((with_reducible refine FlowJ.call (v := ?_) ?_ ?_ ?_); rotate_left 1; (focus (intro _; rfl)); (focus (intro β L' w' hJ hat K' hK; (try dsimp only at hJ); ((have p9 := hat.pre 9 (by kernel_rfl)); have p6 := hat.down 9 6 p9 (by decide) (by kernel_rfl); obtain ⟨F, e6, hb⟩ := hJ.2 p6; rw [e6]; go_simp; go_at_call 20; refine Calls.mono (HFST.out w' F hJ.1 hb) ?_; rintro e w'' ⟨rfl, hc⟩; rw [← e6]; refine hK.out _ ?_; simp only [setL, Nat.reduceEqDiff, if_false]; exact ⟨hJ.1.trans (hc.mono hJ.1.size), fun _ => ⟨F, e6, hb.later hc⟩⟩))); (try simp only [Act.put, List.setIfInBounds_toArray, List.set_cons_zero, List.set_cons_succ, Nat.reduceAdd]))
  iterate 5 (((with_reducible refine FlowJ.pure (v := ?_) ?_ ?_ ?_ ?_); rotate_left 1; (focus (intro _; rfl)); (focus (intro β L' w' hJ hat; (try dsimp only at hJ); (try dsimp only); simpa only [setL, Nat.reduceEqDiff, if_false] using hJ)); (focus (intro β L' w' hJ hat; (try dsimp only at hJ); skip; go_simp; (try with_reducible rfl); done)); (try simp only [Act.put, List.setIfInBounds_toArray, List.set_cons_zero, List.set_cons_succ, Nat.reduceAdd])))
  refine FlowJ.stop ?_
  dsimp only
  intro β w7 hJ
  have hb7 := hJ.1
  have HB27 := Lib.hid (HB26.out.trans (hb7.mono HB26.out.size))
  have HB7 := Lib.hid (HB6.out.trans (hb7.mono HB6.out.size))
  have HX7 := Lib.hid (HX6.out.later hb7)
  have HL7 := Lib.hid (HL6.out.later hb7)
  have HLB7 := Lib.hid (HLB6.out.later hb7)
  have HB67 := Lib.hid hb7
  have HLLM := Lib.hid hll
  have HND0 := Lib.hid h0
  clear hJ hb7 d0 d1 d2 lb hmf hmk hll h0 HFST HVL HPL hlc hcm
  go_wp2_with fail
  go_loopg [10, 11] (ll + 1) (fun gk v10 v11 wr => ∃ i : Nat, i ≤ ll ∧ gk + i = ll + 1 ∧ v11 = .int .i64 i ∧ v10 = .bool true ∧ Below w7.heap.size w7 wr)
  case atStart => exact ⟨0, by omega, by omega, rfl, rfl, Below.refl _ _⟩
  case round =>
    obtain ⟨i, hi, hgi, rfl, rfl, hbr⟩ := hrel
    obtain ⟨wq, hwq⟩ : ∃ wq, wq = wr := ⟨_, rfl⟩
    subst hwq
    have HBR := Lib.hid hbr
    have lb := ((HLB7.out.later hbr) 0 _ rfl).1
    by_cases hlt : i < ll
    · have hiL : i < l.length := by have := HLL.out; omega
      have HLq := Lib.hid (HL7.out.later hbr)
      obtain ⟨b, off, ea, _⟩ := HLq.out.at'.head (by omega)
      subst ea
      have hrng := HLq.out.at'.range hiL
      rw [show off + i * EQ.S = off + i * 6 from rfl] at hrng
      have hq := List.getElem_mem hiL
      have hcmp : ∀ j (h : j < l.length), j < i → cmpP l[j].1 l[i].1 < 0 := fun j h hj => by
        have h2 := List.pairwise_iff_getElem.1 HPR.out.strict j i (by simpa using h) (by simpa using hiL) hj
        simpa using h2
      obtain ⟨q, hqe⟩ : ∃ q, q = l[i] := ⟨_, rfl⟩
      rw [← hqe] at hrng hq hcmp
      obtain ⟨hdm, htn⟩ := HPR.out.dom q hq
      have hcan := HPR.out.can hq
      have hbd := HPR.out.bound HV.out hq
      have hnx := HPR.out.next q hq
      have hps := HLq.out.ps q hq
      obtain ⟨hl1, hl2⟩ := HLq.out.len q hq
      have ht0 := hdm.t0
      obtain ⟨⟨qt, qs, qf, qb, qc, qd⟩, qsa, qsc, qfa, qfc⟩ := q
      replace hl1 : qs.length = n := hl1
      replace hl2 : qf.length = n := hl2
      replace ht0 : 0 ≤ qt := ht0
      replace htn : qt < g.deps.length := htn
      rw [← HND.out] at htn
      obtain ⟨tn, rfl⟩ : ∃ tn : Nat, qt = tn := ⟨qt.toNat, by omega⟩
      have htn' : tn < nd := by omega
      have x0 : wq.cell? ⟨b, off + i * 6, none⟩ = some (.int .i64 tn) := by have := hrng 0 _ rfl; rwa [Nat.add_zero] at this
      have x1 : wq.cell? ⟨b, off + i * 6 + 1, none⟩ = some (.slice qsa n qsc) := by have := hrng 1 _ rfl; rw [← hl1]; exact this
      have x2 : wq.cell? ⟨b, off + i * 6 + 2, none⟩ = some (.slice qfa n qfc) := by have := hrng 2 _ rfl; rw [← hl2]; exact this
      have x3 : wq.cell? ⟨b, off + i * 6 + 3, none⟩ = some (.int .i64 qb) := hrng 3 _ rfl
      have x4 : wq.cell? ⟨b, off + i * 6 + 4, none⟩ = some (.int .i64 qc) := hrng 4 _ rfl
      have x5 : wq.cell? ⟨b, off + i * 6 + 5, none⟩ = some (.int .i64 qd) := hrng 5 _ rfl
      have HDM := Lib.hid hdm
      have HCAN := Lib.hid hcan
      have HBD := Lib.hid hbd
      have HNXT := Lib.hid hnx
      have HPSQ := Lib.hid hps
      have HL12 := Lib.hid (And.intro hl1 hl2)
      have HQ := Lib.hid hq
      have HCM := Lib.hid hcmp
      have HQE := Lib.hid hqe
      have i1 : (i : Int) < (ll : Int) := by omega
      have i0 : (0 : Int) ≤ (i : Int) := by omega
      have HLT := Lib.hid hlt
      clear hdm hcan hbd hnx hps hl1 hl2 hq hcmp hqe hrng htn ht0 hlt hbr
      go_upto_region 18 with fail
      refine wp_named ?_
      intro w8 hw8
      obtain ⟨hb8, hs8, hx8, _⟩ := alloc1 wq [.int .i64 tn, .slice qsa n qsc, .slice qfa n qfc, .int .i64 qb, .int .i64 qc, .int .i64 qd] _ w8 hw8
      have HB78 := Lib.hid (HBR.out.trans (hb8.mono HBR.out.size))
      have HB28 := Lib.hid (HB27.out.trans (HB78.out.mono HB27.out.size))
      have HX8 := Lib.hid hx8
      have hg8 := HX7.out.later HB78.out
      have hl8 := HLB7.out.later HB78.out
      have hS0 : ∀ wy : World, Below w8.heap.size w8 wy → Below w8.heap.size w8 wy ∧ wy.cell? ⟨w4.heap.size, 0, none⟩ = some (.slice (some ⟨b, off, none⟩) ll c) ∧ wy.cell? ⟨w.heap.size, 0, none⟩ = some (.slice sa n sc) ∧ wy.cell? ⟨w.heap.size, 1, none⟩ = some (.slice da nd dc)
          ∧ wy.cell? ⟨wq.heap.size, 0, none⟩ = some (.int .i64 tn) ∧ wy.cell? ⟨wq.heap.size, 1, none⟩ = some (.slice qsa n qsc) ∧ wy.cell? ⟨wq.heap.size, 2, none⟩ = some (.slice qfa n qfc) ∧ wy.cell? ⟨wq.heap.size, 3, none⟩ = some (.int .i64 qb) ∧ wy.cell? ⟨wq.heap.size, 4, none⟩ = some (.int .i64 qc) ∧ wy.cell? ⟨wq.heap.size, 5, none⟩ = some (.int .i64 qd) := fun wy hy => by
        have h1 := hx8.later hy
        have h2 := hg8.later hy
        have e0 := (h2 0 _ rfl).1
        have e1 := (h2 1 _ rfl).1
        rw [← HN.out] at e0
        rw [← HND.out] at e1
        exact ⟨hy, ((hl8.later hy) 0 _ rfl).1, e0, e1, (h1 0 _ rfl).1, (h1 1 _ rfl).1, (h1 2 _ rfl).1, (h1 3 _ rfl).1, (h1 4 _ rfl).1, (h1 5 _ rfl).1⟩
      have HS0 := Lib.hid hS0
      have t1 : (tn : Int) < (nd : Int) := by omega
      have t2 : decide ((nd : Int) ≤ (tn : Int)) = false := decide_eq_false (by omega)
      have t4 : decide (nd ≤ tn) = false := decide_eq_false (by omega)
      have t5 : ¬ nd ≤ tn := by omega
      have t3 : decide ((tn : Int) < 0) = false := decide_eq_false (by omega)
      clear hw8 hb8 hs8 hx8 x0 x1 x2 x3 x4 x5 lb hg8 hl8 HLB HX5 HX6 HLB6 HL5 HL6 HX4
      rcases Nat.eq_zero_or_pos i with hi0 | hi0
      · have p1 : decide ((0 : Int) < (i : Int)) = false := by simp; omega
        have hS := hS0
        clear hS0
        refine wp_flow_s [] [] (by kernel_rfl) (by kernel_rfl) (by kernel_rfl) ?_
        repeat (first | ((with_reducible refine Flow.pure hS StayG.nil (v := ?_) ?_ ?_ ?_ ?_); rotate_left 1; (focus kernel_rfl); (focus (intro _; rfl)); (focus (intro β wx hSw; (try dsimp only at hSw); go_simp; (try with_reducible rfl); done)); (try simp only [Act.put, List.setIfInBounds_toArray, List.set_cons_zero, List.set_cons_succ, Nat.reduceAdd])) | ((with_reducible refine Flow.skip StayG.nil ?_ ?_ ?_); (focus kernel_rfl); (focus (intro _; rfl)); (try simp only [Act.put, List.setIfInBounds_toArray, List.set_cons_zero, List.set_cons_succ, Nat.reduceAdd])))
        ((with_reducible refine Flow.stop ?_); dsimp only; intro β2 w9 hI9)
        have HB89 := Lib.hid hI9.below
        obtain ⟨_, lb, d0, d1, x0, x1, x2, x3, x4, x5⟩ := HS0.out w9 hI9.below
        have HPS9 := Lib.hid ((HL7.out.later (HB78.out.trans (HB89.out.mono HB78.out.size))).ps _ HQ.out)
        clear hI9 hi0 p1 hS
        have hb29 := HB28.out.trans (HB89.out.mono HB28.out.size)
        obtain ⟨db, doff, ra, rc, rfl, hrow, hri⟩ := (HG2.out.later hb29).d tn (by rw [← HND.out]; exact htn')
        obtain ⟨d, hd⟩ : ∃ d, d = g.deps.getD tn [] := ⟨_, rfl⟩
        rw [← hd] at hrow hri
        have hok : okDep g.starts.length d := by rw [hd]; exact HV.out.2.2.2.2.2 tn (by rw [← HND.out]; exact htn')
        obtain ⟨m, hm⟩ : ∃ m, m = d.length := ⟨_, rfl⟩
        rw [← hm] at hrow
        have hm1 : m ≤ 1000 := by rw [hm, hd]; exact HFW.out.r tn (by rw [← HND.out]; exact htn')
        have HD := Lib.hid hd
        have HOK := Lib.hid hok
        have HM := Lib.hid hm
        have HRI := Lib.hid hri
        have HB29 := Lib.hid hb29
        have t6 : (0 : Int) ≤ (tn : Int) := by omega
        obtain ⟨B0, hB0⟩ : ∃ B, B = possB qs qf qc [] := ⟨_, rfl⟩
        have g1 : (qc == (-1 : Int)) = B0 := by rw [hB0, Bool.eq_iff_iff]; simp [possB]
        have g2 : decide (qc = (-1 : Int)) = B0 := by rw [hB0, Bool.eq_iff_iff]; simp [possB]
        have HB0 := Lib.hid hB0
        clear hd hok hm hri hb29 hB0
        go_upto_region 21 with fail
        clear g1 g2
        go_wp2_with fail
        go_loopg [13, 14] (m + 1) (fun gk v13 v14 wx => ∃ k : Nat, k ≤ m ∧ gk + k = m + 1 ∧ v14 = .int .i64 k ∧ v13 = .bool (possB qs qf qc (d.take k)) ∧ w9 = wx)
        case atStart => exact ⟨0, by omega, by omega, rfl, by rw [HB0.out]; rfl, rfl⟩
        case round =>
          obtain ⟨k, hk, hgk, rfl, rfl, rfl⟩ := hrel
          obtain ⟨B, hB⟩ : ∃ B, B = possB qs qf qc (d.take k) := ⟨_, rfl⟩
          rw [← hB]
          have HBK := Lib.hid hB
          clear hB
          by_cases hlk : k < m
          · obtain ⟨eb, eo, rfl, fp⟩ := HRI.out.fam (by have := HM.out; omega)
            have kq := fp k (by have := HM.out; omega)
            obtain ⟨v, hv⟩ : ∃ v, v = ig d k := ⟨_, rfl⟩
            rw [← hv] at kq
            have hvr : 0 ≤ v ∧ v < g.starts.length := by rw [hv]; exact okDep_domG HOK.out (ig_mem (by have := HM.out; omega))
            rw [← HN.out] at hvr
            obtain ⟨vn, rfl⟩ : ∃ vn : Nat, v = vn := ⟨v.toNat, by omega⟩
            have hvn : vn < n := by omega
            obtain ⟨sb, so, rfl, fs⟩ := HPS9.out.s.fam (show 0 < qs.length by have := HL12.out.1; omega)
            obtain ⟨fb, fo, rfl, ff⟩ := HPS9.out.f.fam (show 0 < qf.length by have := HL12.out.2; omega)
            have ks := fs vn (show vn < qs.length by have := HL12.out.1; omega)
            have kf := ff vn (show vn < qf.length by have := HL12.out.2; omega)
            obtain ⟨C2, hC2⟩ : ∃ C, C = bg qf vn := ⟨_, rfl⟩
            obtain ⟨sv, hsv⟩ : ∃ s, s = ig qs vn := ⟨_, rfl⟩
            simp only at ks kf
            rw [← hsv] at ks
            rw [← hC2] at kf
            obtain ⟨C1, hC1⟩ : ∃ C, C = decide ((vn : Int) = qc) := ⟨_, rfl⟩
            obtain ⟨C3, hC3⟩ : ∃ C, C = decide (0 < sv) := ⟨_, rfl⟩
            have f1 : ((vn : Int) == qc) = C1 := by rw [hC1, Bool.eq_iff_iff]; simp
            have f3 := hC3.symm
            have f2 := hC1.symm
            have HNX := Lib.hid (show possB qs qf qc (d.take (k + 1)) = (B || (C1 && (!C2 && C3))) from by
              have hkd : k < d.length := by have := HM.out; omega
              rw [HBK.out, hC1, hC2, hC3, hsv, take_snoc hkd]
              unfold possB
              rw [List.any_append, Bool.or_assoc, ← ig_lt hkd, ← hv]
              simp)
            have k1 : (k : Int) < (m : Int) := by omega
            have k0 : (0 : Int) ≤ (k : Int) := by omega
            have v1 : (vn : Int) < (n : Int) := by omega
            have v0 : (0 : Int) ≤ (vn : Int) := by omega
            have HLK := Lib.hid hlk
            clear fp hv hvr fs ff hC2 hsv hC1 hC3 hlk hvn
            have hcases : B = true ∨ (B = false ∧ C1 = false) ∨ (B = false ∧ C1 = true ∧ C2 = true) ∨ (B = false ∧ C1 = true ∧ C2 = false) := by cases B <;> cases C1 <;> cases C2 <;> simp
            rcases hcases with rfl | ⟨rfl, rfl⟩ | ⟨rfl, rfl, rfl⟩ | ⟨rfl, rfl, rfl⟩
            · skip
              go_wp2_with fail
              go_roundg (m - k)
              case measure => have := HLK.out; omega
              case rel => exact ⟨k + 1, HLK.out, by have := HLK.out; omega, by go_num, by rw [HNX.out]; rfl, rfl⟩
            · skip
              go_wp2_with fail
              go_roundg (m - k)
              case measure => have := HLK.out; omega
              case rel => exact ⟨k + 1, HLK.out, by have := HLK.out; omega, by go_num, by rw [HNX.out]; rfl, rfl⟩
            · skip
              go_wp2_with fail
              go_roundg (m - k)
              case measure => have := HLK.out; omega
              case rel => exact ⟨k + 1, HLK.out, by have := HLK.out; omega, by go_num, by rw [HNX.out]; rfl, rfl⟩
            · skip
              go_wp2_with fail
              go_roundg (m - k)
              case measure => have := HLK.out; omega
              case rel => exact ⟨k + 1, HLK.out, by have := HLK.out; omega, by go_num, by rw [HNX.out]; rfl, rfl⟩
          · obtain rfl : m = k := by omega
            have hBt : B = true := by
              rw [HBK.out, HM.out, List.take_length]
              unfold possB
              rw [Bool.or_eq_true]
              rcases HCAN.out with h | ⟨h1, h2, h3⟩
              · exact .inl (decide_eq_true h)
              · refine .inr (List.any_eq_true.2 ⟨qc, by rw [HD.out]; exact h1, ?_⟩)
                have h2' : bg qf qc.toNat = false := h2
                have h3' : 0 < ig qs qc.toNat := h3
                rw [h2', decide_eq_true h3']
                simp
            subst hBt
            have HB9' := Lib.hid (HB67.out.trans ((HB78.out.trans (HB89.out.mono HB78.out.size)).mono HB67.out.size))
            have hcc : qc = -1 ∨ ∃ k : Nat, qc = k ∧ k < qs.length ∧ 0 ≤ ig qs k ∧ ig qs k ≤ 1000 := by
              rcases HCAN.out with h | ⟨h1, h2, h3⟩
              · exact .inl h
              · have h4 := okDep_domG HOK.out (show qc ∈ d by rw [HD.out]; exact h1)
                have h5 := HDM.out.st qc.toNat (by show qc.toNat < qs.length; rw [HL12.out.1, HN.out]; omega)
                have h6 := HV.out.2.2.2.2.1 qc.toNat (by omega)
                exact .inr ⟨qc.toNat, by omega, by rw [HL12.out.1, HN.out]; omega, h5.1, by have h7 : ig qs qc.toNat ≤ ig g.starts qc.toNat := h5.2; omega⟩
            have hqb : qb ≤ 1000 := by have h : qb ≤ g.budget := HDM.out.b0; rw [← HBU.out] at h; omega
            have hcr : qc = -1 ∨ 0 ≤ qc := by rcases hcc with h | ⟨k, h, _⟩ <;> omega
            have hnc : ∀ wy, Below w9.heap.size w9 wy → Calls Try.prog 24 #[.agg #[.int .i64 tn, .slice qsa n qsc, .slice qfa n qfc, .int .i64 qb, .int .i64 qc, .int .i64 qd], .int .i64 qc] wy (RetNx ⟨tn, qs, qf, qb, qc, qd⟩ qc qfa qfc wy) := fun wy hy => by
              have h := rnext_any (⟨tn, qs, qf, qb, qc, qd⟩ : Pos) qc qsa qfa qsc qfc wy (HPS9.out.later hy) (by show qs.length ≤ 50; rw [HL12.out.1]; omega) (by show 0 ≤ (tn : Int) ∧ (tn : Int) ≤ 1000; omega) hcc
              unfold psV at h
              simp only [HL12.out.1, HL12.out.2] at h
              exact h
            have HNC := Lib.hid hnc
            have HQB := Lib.hid hqb
            clear hnc hcc hqb hlk hk hgk
            obtain ⟨W, hW⟩ : ∃ W, W = maxL ((madeL (afterS (⟨tn, qs, qf, qb, qc, qd⟩ : Pos).st qc)).map (boundB g)) := ⟨_, rfl⟩
            have HW := Lib.hid hW
            have hWr : 0 ≤ W ∧ W ≤ 100 := by
              rw [hW]
              refine maxL_in (fun y hy => ?_) (by omega)
              obtain ⟨x, _, rfl⟩ := List.mem_map.1 hy
              have := boundB_in HV.out x; omega
            have hqd : qd = (if qc < 0 then 1 else 0) + (if (tn : Int) + 1 < (g.deps.length : Int) then W else 0) := by rw [hW]; exact HBD.out
            rw [← HND.out] at hqd
            have HQD := Lib.hid hqd
            have ht1 : IntKind.i64.wrap ((tn : Int) + 1) = (tn : Int) + 1 := IntWalk.i64_in _ (by omega)
            clear hW hqd
            rcases hcr with rfl | hc1
            · have LO := Lib.hid (show (if (-1 : Int) < 0 then (1 : Int) else 0) = 1 from by decide)
              go_wp2_with fail
              refine Calls.mono (HNC.out w9 (Below.refl _ _)) ?_
              rintro e wA ⟨sa', sc', rfl, hpn, hbA⟩
              have ePs : psV (posN ⟨tn, qs, qf, qb, -1, qd⟩ (-1)) sa' sc' qfa qfc = .agg #[.int .i64 ((tn : Int) + 1), .slice sa' n sc', .slice qfa n qfc, .int .i64 qb, .int .i64 0, .int .i64 0] := by
                unfold psV
                rw [posN_len]
                simp only [HL12.out.1]
                rw [show (posN ⟨tn, qs, qf, qb, -1, qd⟩ (-1)).failed.length = n from HL12.out.2]
                rfl
              rw [ePs]
              have HBA := Lib.hid hbA
              have h0A := HS0.out wA (HB89.out.trans (hbA.mono HB89.out.size))
              obtain ⟨_, -, -, -, -, -, -, -, -, -⟩ := h0A
              clear lb d0 d1 x0 x1 x2 x3 x4 x5
              obtain ⟨_, lb, d0, d1, x0, x1, x2, x3, x4, x5⟩ := HS0.out wA (HB89.out.trans (hbA.mono HB89.out.size))
              have hlA : w.heap.size < wA.heap.size := World.block_lt_of_cell? _ _ d0
              have hlA2 : wq.heap.size < wA.heap.size := World.block_lt_of_cell? _ _ x0
              have hlA4 : w4.heap.size < wA.heap.size := World.block_lt_of_cell? _ _ lb
              have HPN := Lib.hid hpn
              have HB9A := Lib.hid ((HB89.out.trans (hbA.mono HB89.out.size)))
              have HEP := Lib.hid ePs
              clear hpn hbA ePs
              go_upto_region 32 with fail
              refine wp_named ?_
              intro wZ hwZ
              obtain ⟨hbZ, _, hxZ, _⟩ := alloc1 wA [.int .i64 ((tn : Int) + 1), .slice sa' n sc', .slice qfa n qfc, .int .i64 qb, .int .i64 0, .int .i64 0] _ wZ hwZ
              have HB9Z := Lib.hid (HB9A.out.trans (hbZ.mono HB9A.out.size))
              have HB7Z := Lib.hid (HB78.out.trans (HB9Z.out.mono HB78.out.size))
              have HPZ := Lib.hid (HPN.out.later hbZ)
              clear lb d0 d1 x0 x1 x2 x3 x4 x5
              obtain ⟨_, lb, d0, d1, x0, x1, x2, x3, x4, x5⟩ := HS0.out wZ HB9Z.out
              have n0 := (hxZ 0 _ rfl).1
              have n1 := (hxZ 1 _ rfl).1
              have n2 := (hxZ 2 _ rfl).1
              have n3 := (hxZ 3 _ rfl).1
              have n4 := (hxZ 4 _ rfl).1
              have n5 := (hxZ 5 _ rfl).1
              clear hwZ hbZ hxZ hlA hlA2 hlA4
              by_cases hlast : tn + 1 < nd
              · have q1 : decide ((tn : Int) + 1 < (nd : Int)) = true := decide_eq_true (by omega)
                have q2 : decide (tn + 1 < nd) = true := decide_eq_true hlast
                have HE := Lib.hid (show qd = (1) + W from by rw [HQD.out, LO.out, if_pos (by omega)])
                have hna := HAF.out (posN ⟨tn, qs, qf, qb, -1, qd⟩ (-1)) sa' qfa sc' qfc wZ (HB67.out.trans (HB7Z.out.mono HB67.out.size)) HPZ.out (by rw [posN_len]; exact HL12.out.1) HL12.out.2 HQB.out (fun y hy => HNXT.out (by show (tn : Int) + 1 < (g.deps.length : Int); rw [← HND.out]; omega) y hy)
                rw [HEP.out, show maxL ((madeL (posN ⟨tn, qs, qf, qb, -1, qd⟩ (-1)).st).map (boundB g)) = W from HW.out.symm] at hna
                have HNA := Lib.hid hna
                clear hna
                go_wp2_with fail
                refine Calls.mono HNA.out ?_
                rintro e wB ⟨rfl, hbB⟩
                clear lb d0 d1 x0 x1 x2 x3 x4 x5 n0 n1 n2 n3 n4 n5
                obtain ⟨_, lb, d0, d1, x0, x1, x2, x3, x4, x5⟩ := HS0.out wB (HB9Z.out.trans (hbB.mono HB9Z.out.size))
                rw [HE.out] at x5
                have HBB := Lib.hid (HB7Z.out.trans (hbB.mono HB7Z.out.size))
                have wL : IntKind.i64.wrap ((1) + W) = (1) + W := IntWalk.i64_in _ (by omega)
                clear hbB
                have hllb := HLLM.out
                go_wp2_with fail
                go_roundg (ll - i)
                case measure => have := HLT.out; omega
                case rel => exact ⟨i + 1, HLT.out, by have := HLT.out; omega, by have := HLT.out; have := HLLM.out; go_num, rfl, HBB.out⟩
              · have q1 : decide ((tn : Int) + 1 < (nd : Int)) = false := decide_eq_false (by omega)
                have q2 : decide (tn + 1 < nd) = false := decide_eq_false hlast
                have HE := Lib.hid (show qd = (1) from by rw [HQD.out, LO.out, if_neg (by omega)]; rfl)
                rw [HE.out] at x5
                have hllb := HLLM.out
                go_wp2_with fail
                go_roundg (ll - i)
                case measure => have := HLT.out; omega
                case rel => exact ⟨i + 1, HLT.out, by have := HLT.out; omega, by have := HLT.out; have := HLLM.out; go_num, rfl, HB7Z.out⟩
            · have l1 : decide (qc < 0) = false := decide_eq_false (by omega)
              have l2 : ¬ qc < 0 := by omega
              have LO := Lib.hid (show (if qc < 0 then (1 : Int) else 0) = 0 from if_neg l2)
              go_wp2_with fail
              refine Calls.mono (HNC.out w9 (Below.refl _ _)) ?_
              rintro e wA ⟨sa', sc', rfl, hpn, hbA⟩
              have ePs : psV (posN ⟨tn, qs, qf, qb, qc, qd⟩ (qc)) sa' sc' qfa qfc = .agg #[.int .i64 ((tn : Int) + 1), .slice sa' n sc', .slice qfa n qfc, .int .i64 qb, .int .i64 0, .int .i64 0] := by
                unfold psV
                rw [posN_len]
                simp only [HL12.out.1]
                rw [show (posN ⟨tn, qs, qf, qb, qc, qd⟩ (qc)).failed.length = n from HL12.out.2]
                rfl
              rw [ePs]
              have HBA := Lib.hid hbA
              have h0A := HS0.out wA (HB89.out.trans (hbA.mono HB89.out.size))
              obtain ⟨_, -, -, -, -, -, -, -, -, -⟩ := h0A
              clear lb d0 d1 x0 x1 x2 x3 x4 x5
              obtain ⟨_, lb, d0, d1, x0, x1, x2, x3, x4, x5⟩ := HS0.out wA (HB89.out.trans (hbA.mono HB89.out.size))
              have hlA : w.heap.size < wA.heap.size := World.block_lt_of_cell? _ _ d0
              have hlA2 : wq.heap.size < wA.heap.size := World.block_lt_of_cell? _ _ x0
              have hlA4 : w4.heap.size < wA.heap.size := World.block_lt_of_cell? _ _ lb
              have HPN := Lib.hid hpn
              have HB9A := Lib.hid ((HB89.out.trans (hbA.mono HB89.out.size)))
              have HEP := Lib.hid ePs
              clear hpn hbA ePs
              go_upto_region 32 with fail
              refine wp_named ?_
              intro wZ hwZ
              obtain ⟨hbZ, _, hxZ, _⟩ := alloc1 wA [.int .i64 ((tn : Int) + 1), .slice sa' n sc', .slice qfa n qfc, .int .i64 qb, .int .i64 0, .int .i64 0] _ wZ hwZ
              have HB9Z := Lib.hid (HB9A.out.trans (hbZ.mono HB9A.out.size))
              have HB7Z := Lib.hid (HB78.out.trans (HB9Z.out.mono HB78.out.size))
              have HPZ := Lib.hid (HPN.out.later hbZ)
              clear lb d0 d1 x0 x1 x2 x3 x4 x5
              obtain ⟨_, lb, d0, d1, x0, x1, x2, x3, x4, x5⟩ := HS0.out wZ HB9Z.out
              have n0 := (hxZ 0 _ rfl).1
              have n1 := (hxZ 1 _ rfl).1
              have n2 := (hxZ 2 _ rfl).1
              have n3 := (hxZ 3 _ rfl).1
              have n4 := (hxZ 4 _ rfl).1
              have n5 := (hxZ 5 _ rfl).1
              clear hwZ hbZ hxZ hlA hlA2 hlA4
              by_cases hlast : tn + 1 < nd
              · have q1 : decide ((tn : Int) + 1 < (nd : Int)) = true := decide_eq_true (by omega)
                have q2 : decide (tn + 1 < nd) = true := decide_eq_true hlast
                have HE := Lib.hid (show qd = (0) + W from by rw [HQD.out, LO.out, if_pos (by omega)])
                have hna := HAF.out (posN ⟨tn, qs, qf, qb, qc, qd⟩ (qc)) sa' qfa sc' qfc wZ (HB67.out.trans (HB7Z.out.mono HB67.out.size)) HPZ.out (by rw [posN_len]; exact HL12.out.1) HL12.out.2 HQB.out (fun y hy => HNXT.out (by show (tn : Int) + 1 < (g.deps.length : Int); rw [← HND.out]; omega) y hy)
                rw [HEP.out, show maxL ((madeL (posN ⟨tn, qs, qf, qb, qc, qd⟩ (qc)).st).map (boundB g)) = W from HW.out.symm] at hna
                have HNA := Lib.hid hna
                clear hna
                go_wp2_with fail
                refine Calls.mono HNA.out ?_
                rintro e wB ⟨rfl, hbB⟩
                clear lb d0 d1 x0 x1 x2 x3 x4 x5 n0 n1 n2 n3 n4 n5
                obtain ⟨_, lb, d0, d1, x0, x1, x2, x3, x4, x5⟩ := HS0.out wB (HB9Z.out.trans (hbB.mono HB9Z.out.size))
                rw [HE.out] at x5
                have HBB := Lib.hid (HB7Z.out.trans (hbB.mono HB7Z.out.size))
                have wL : IntKind.i64.wrap ((0) + W) = (0) + W := IntWalk.i64_in _ (by omega)
                clear hbB
                have hllb := HLLM.out
                go_wp2_with fail
                go_roundg (ll - i)
                case measure => have := HLT.out; omega
                case rel => exact ⟨i + 1, HLT.out, by have := HLT.out; omega, by have := HLT.out; have := HLLM.out; go_num, rfl, HBB.out⟩
              · have q1 : decide ((tn : Int) + 1 < (nd : Int)) = false := decide_eq_false (by omega)
                have q2 : decide (tn + 1 < nd) = false := decide_eq_false hlast
                have HE := Lib.hid (show qd = (0) from by rw [HQD.out, LO.out, if_neg (by omega)]; rfl)
                rw [HE.out] at x5
                have hllb := HLLM.out
                go_wp2_with fail
                go_roundg (ll - i)
                case measure => have := HLT.out; omega
                case rel => exact ⟨i + 1, HLT.out, by have := HLT.out; omega, by have := HLT.out; have := HLLM.out; go_num, rfl, HB7Z.out⟩
      · obtain ⟨j, hj⟩ : ∃ j, i = j + 1 := ⟨i - 1, by omega⟩
        have p1 : decide ((0 : Int) < (i : Int)) = true := by simp; omega
        have p2 : IntKind.i64.wrap ((i : Int) - 1) = (j : Int) := by rw [IntWalk.i64_in _ (by have := HLLM.out; omega)]; omega
        have p3 : (j : Int) < (ll : Int) := by omega
        have p4 : (0 : Int) ≤ (j : Int) := by omega
        have hjL : j < l.length := by have := HLL.out; omega
        have hrc := fun wy (hy : Below w8.heap.size w8 wy) => rcmp_any l[j] (⟨tn, qs, qf, qb, qc, qd⟩, qsa, qsc, qfa, qfc) wy ((HL7.out.later (HB78.out.trans (hy.mono HB78.out.size))).ps _ (List.getElem_mem hjL)) ((HL7.out.later (HB78.out.trans (hy.mono HB78.out.size))).ps _ HQ.out) (by rw [(HL7.out.len _ (List.getElem_mem hjL)).1]; exact HL12.out.1) (by rw [(HL7.out.len _ (List.getElem_mem hjL)).2]; exact HL12.out.2) (by rw [(HL7.out.len _ (List.getElem_mem hjL)).1, (HL7.out.len _ (List.getElem_mem hjL)).2]; omega)
        have hrn := (HL7.out.later HB78.out).at'.range hjL
        rw [show off + j * EQ.S = off + j * 6 from rfl] at hrn
        obtain ⟨hy1, hy2⟩ := HL7.out.len _ (List.getElem_mem hjL)
        have hr0 := HCM.out j hjL (by omega)
        obtain ⟨y, hye⟩ : ∃ y, y = l[j] := ⟨_, rfl⟩
        rw [← hye] at hrc hrn hy1 hy2 hr0
        obtain ⟨r, hr⟩ : ∃ r, r = cmpP y.1 ⟨tn, qs, qf, qb, qc, qd⟩ := ⟨_, rfl⟩
        simp only [← hr] at hrc hr0
        have p5 : decide ((0 : Int) ≤ r) = false := by simp; omega
        obtain ⟨⟨yt, ys, yf, yb, yc, yd⟩, ysa, ysc, yfa, yfc⟩ := y
        replace hy1 : ys.length = n := hy1
        replace hy2 : yf.length = n := hy2
        have z0 : w8.cell? ⟨b, off + j * 6, none⟩ = some (.int .i64 yt) := by have := hrn 0 _ rfl; rwa [Nat.add_zero] at this
        have z1 : w8.cell? ⟨b, off + j * 6 + 1, none⟩ = some (.slice ysa n ysc) := by have := hrn 1 _ rfl; rw [← hy1]; exact this
        have z2 : w8.cell? ⟨b, off + j * 6 + 2, none⟩ = some (.slice yfa n yfc) := by have := hrn 2 _ rfl; rw [← hy2]; exact this
        have z3 : w8.cell? ⟨b, off + j * 6 + 3, none⟩ = some (.int .i64 yb) := hrn 3 _ rfl
        have z4 : w8.cell? ⟨b, off + j * 6 + 4, none⟩ = some (.int .i64 yc) := hrn 4 _ rfl
        have z5 : w8.cell? ⟨b, off + j * 6 + 5, none⟩ = some (.int .i64 yd) := hrn 5 _ rfl
        have e1 : (psCs (⟨yt, ys, yf, yb, yc, yd⟩, ysa, ysc, yfa, yfc) : List Value) = [.int .i64 yt, .slice ysa n ysc, .slice yfa n yfc, .int .i64 yb, .int .i64 yc, .int .i64 yd] := by
          show [Value.int .i64 yt, Value.slice ysa ys.length ysc, Value.slice yfa yf.length yfc, Value.int .i64 yb, Value.int .i64 yc, Value.int .i64 yd] = _
          rw [hy1, hy2]
        have e2 : (psCs (⟨tn, qs, qf, qb, qc, qd⟩, qsa, qsc, qfa, qfc) : List Value) = [.int .i64 tn, .slice qsa n qsc, .slice qfa n qfc, .int .i64 qb, .int .i64 qc, .int .i64 qd] := by
          have h1 := HL12.out.1
          have h2 := HL12.out.2
          show [Value.int .i64 tn, Value.slice qsa qs.length qsc, Value.slice qfa qf.length qfc, Value.int .i64 qb, Value.int .i64 qc, Value.int .i64 qd] = _
          rw [h1, h2]
        rw [e1, e2] at hrc
        have HRC := Lib.hid hrc
        have hS : ∀ wy : World, Below w8.heap.size w8 wy → _ := fun wy hy => And.intro (hS0 wy hy) (And.intro (cell_later hy z0) (And.intro (cell_later hy z1) (And.intro (cell_later hy z2) (And.intro (cell_later hy z3) (And.intro (cell_later hy z4) (cell_later hy z5))))))
        clear hS0 hrc hrn hy1 hy2 hye hr hr0 z0 z1 z2 z3 z4 z5 e1 e2 hj
        refine wp_flow_s [] [] (by kernel_rfl) (by kernel_rfl) (by kernel_rfl) ?_
        repeat (first | ((with_reducible refine Flow.pure hS StayG.nil (v := ?_) ?_ ?_ ?_ ?_); rotate_left 1; (focus kernel_rfl); (focus (intro _; rfl)); (focus (intro β wx hSw; (try dsimp only at hSw); go_simp; (try with_reducible rfl); done)); (try simp only [Act.put, List.setIfInBounds_toArray, List.set_cons_zero, List.set_cons_succ, Nat.reduceAdd])) | ((with_reducible refine Flow.skip StayG.nil ?_ ?_ ?_); (focus kernel_rfl); (focus (intro _; rfl)); (try simp only [Act.put, List.setIfInBounds_toArray, List.set_cons_zero, List.set_cons_succ, Nat.reduceAdd])) | ((with_reducible refine Flow.call hS StayG.nil (v := ?_) ?_ ?_ ?_ ?_); rotate_left 1; (focus kernel_rfl); (focus (intro _; rfl)); (focus (intro β L wx hI hat hSw K' hK; (try dsimp only at hSw); go_simp; go_at_call 23; refine Calls.mono (HRC.out _ hSw.1.1) ?_; rintro e w' ⟨rfl, hb'⟩; exact hK.out _ hb')); (try simp only [Act.put, List.setIfInBounds_toArray, List.set_cons_zero, List.set_cons_succ, Nat.reduceAdd])))
        ((with_reducible refine Flow.stop ?_); dsimp only; intro β2 w9 hI9)
        have HB89 := Lib.hid hI9.below
        obtain ⟨_, lb, d0, d1, x0, x1, x2, x3, x4, x5⟩ := HS0.out w9 hI9.below
        have HPS9 := Lib.hid ((HL7.out.later (HB78.out.trans (HB89.out.mono HB78.out.size))).ps _ HQ.out)
        clear hI9 hi0 p1 p2 p3 p4 p5 hS
        have hb29 := HB28.out.trans (HB89.out.mono HB28.out.size)
        obtain ⟨db, doff, ra, rc, rfl, hrow, hri⟩ := (HG2.out.later hb29).d tn (by rw [← HND.out]; exact htn')
        obtain ⟨d, hd⟩ : ∃ d, d = g.deps.getD tn [] := ⟨_, rfl⟩
        rw [← hd] at hrow hri
        have hok : okDep g.starts.length d := by rw [hd]; exact HV.out.2.2.2.2.2 tn (by rw [← HND.out]; exact htn')
        obtain ⟨m, hm⟩ : ∃ m, m = d.length := ⟨_, rfl⟩
        rw [← hm] at hrow
        have hm1 : m ≤ 1000 := by rw [hm, hd]; exact HFW.out.r tn (by rw [← HND.out]; exact htn')
        have HD := Lib.hid hd
        have HOK := Lib.hid hok
        have HM := Lib.hid hm
        have HRI := Lib.hid hri
        have HB29 := Lib.hid hb29
        have t6 : (0 : Int) ≤ (tn : Int) := by omega
        obtain ⟨B0, hB0⟩ : ∃ B, B = possB qs qf qc [] := ⟨_, rfl⟩
        have g1 : (qc == (-1 : Int)) = B0 := by rw [hB0, Bool.eq_iff_iff]; simp [possB]
        have g2 : decide (qc = (-1 : Int)) = B0 := by rw [hB0, Bool.eq_iff_iff]; simp [possB]
        have HB0 := Lib.hid hB0
        clear hd hok hm hri hb29 hB0
        go_upto_region 21 with fail
        clear g1 g2
        go_wp2_with fail
        go_loopg [13, 14] (m + 1) (fun gk v13 v14 wx => ∃ k : Nat, k ≤ m ∧ gk + k = m + 1 ∧ v14 = .int .i64 k ∧ v13 = .bool (possB qs qf qc (d.take k)) ∧ w9 = wx)
        case atStart => exact ⟨0, by omega, by omega, rfl, by rw [HB0.out]; rfl, rfl⟩
        case round =>
          obtain ⟨k, hk, hgk, rfl, rfl, rfl⟩ := hrel
          obtain ⟨B, hB⟩ : ∃ B, B = possB qs qf qc (d.take k) := ⟨_, rfl⟩
          rw [← hB]
          have HBK := Lib.hid hB
          clear hB
          by_cases hlk : k < m
          · obtain ⟨eb, eo, rfl, fp⟩ := HRI.out.fam (by have := HM.out; omega)
            have kq := fp k (by have := HM.out; omega)
            obtain ⟨v, hv⟩ : ∃ v, v = ig d k := ⟨_, rfl⟩
            rw [← hv] at kq
            have hvr : 0 ≤ v ∧ v < g.starts.length := by rw [hv]; exact okDep_domG HOK.out (ig_mem (by have := HM.out; omega))
            rw [← HN.out] at hvr
            obtain ⟨vn, rfl⟩ : ∃ vn : Nat, v = vn := ⟨v.toNat, by omega⟩
            have hvn : vn < n := by omega
            obtain ⟨sb, so, rfl, fs⟩ := HPS9.out.s.fam (show 0 < qs.length by have := HL12.out.1; omega)
            obtain ⟨fb, fo, rfl, ff⟩ := HPS9.out.f.fam (show 0 < qf.length by have := HL12.out.2; omega)
            have ks := fs vn (show vn < qs.length by have := HL12.out.1; omega)
            have kf := ff vn (show vn < qf.length by have := HL12.out.2; omega)
            obtain ⟨C2, hC2⟩ : ∃ C, C = bg qf vn := ⟨_, rfl⟩
            obtain ⟨sv, hsv⟩ : ∃ s, s = ig qs vn := ⟨_, rfl⟩
            simp only at ks kf
            rw [← hsv] at ks
            rw [← hC2] at kf
            obtain ⟨C1, hC1⟩ : ∃ C, C = decide ((vn : Int) = qc) := ⟨_, rfl⟩
            obtain ⟨C3, hC3⟩ : ∃ C, C = decide (0 < sv) := ⟨_, rfl⟩
            have f1 : ((vn : Int) == qc) = C1 := by rw [hC1, Bool.eq_iff_iff]; simp
            have f3 := hC3.symm
            have f2 := hC1.symm
            have HNX := Lib.hid (show possB qs qf qc (d.take (k + 1)) = (B || (C1 && (!C2 && C3))) from by
              have hkd : k < d.length := by have := HM.out; omega
              rw [HBK.out, hC1, hC2, hC3, hsv, take_snoc hkd]
              unfold possB
              rw [List.any_append, Bool.or_assoc, ← ig_lt hkd, ← hv]
              simp)
            have k1 : (k : Int) < (m : Int) := by omega
            have k0 : (0 : Int) ≤ (k : Int) := by omega
            have v1 : (vn : Int) < (n : Int) := by omega
            have v0 : (0 : Int) ≤ (vn : Int) := by omega
            have HLK := Lib.hid hlk
            clear fp hv hvr fs ff hC2 hsv hC1 hC3 hlk hvn
            have hcases : B = true ∨ (B = false ∧ C1 = false) ∨ (B = false ∧ C1 = true ∧ C2 = true) ∨ (B = false ∧ C1 = true ∧ C2 = false) := by cases B <;> cases C1 <;> cases C2 <;> simp
            rcases hcases with rfl | ⟨rfl, rfl⟩ | ⟨rfl, rfl, rfl⟩ | ⟨rfl, rfl, rfl⟩
            · skip
              go_wp2_with fail
              go_roundg (m - k)
              case measure => have := HLK.out; omega
              case rel => exact ⟨k + 1, HLK.out, by have := HLK.out; omega, by go_num, by rw [HNX.out]; rfl, rfl⟩
            · skip
              go_wp2_with fail
              go_roundg (m - k)
              case measure => have := HLK.out; omega
              case rel => exact ⟨k + 1, HLK.out, by have := HLK.out; omega, by go_num, by rw [HNX.out]; rfl, rfl⟩
            · skip
              go_wp2_with fail
              go_roundg (m - k)
              case measure => have := HLK.out; omega
              case rel => exact ⟨k + 1, HLK.out, by have := HLK.out; omega, by go_num, by rw [HNX.out]; rfl, rfl⟩
            · skip
              go_wp2_with fail
              go_roundg (m - k)
              case measure => have := HLK.out; omega
              case rel => exact ⟨k + 1, HLK.out, by have := HLK.out; omega, by go_num, by rw [HNX.out]; rfl, rfl⟩
          · obtain rfl : m = k := by omega
            have hBt : B = true := by
              rw [HBK.out, HM.out, List.take_length]
              unfold possB
              rw [Bool.or_eq_true]
              rcases HCAN.out with h | ⟨h1, h2, h3⟩
              · exact .inl (decide_eq_true h)
              · refine .inr (List.any_eq_true.2 ⟨qc, by rw [HD.out]; exact h1, ?_⟩)
                have h2' : bg qf qc.toNat = false := h2
                have h3' : 0 < ig qs qc.toNat := h3
                rw [h2', decide_eq_true h3']
                simp
            subst hBt
            have HB9' := Lib.hid (HB67.out.trans ((HB78.out.trans (HB89.out.mono HB78.out.size)).mono HB67.out.size))
            have hcc : qc = -1 ∨ ∃ k : Nat, qc = k ∧ k < qs.length ∧ 0 ≤ ig qs k ∧ ig qs k ≤ 1000 := by
              rcases HCAN.out with h | ⟨h1, h2, h3⟩
              · exact .inl h
              · have h4 := okDep_domG HOK.out (show qc ∈ d by rw [HD.out]; exact h1)
                have h5 := HDM.out.st qc.toNat (by show qc.toNat < qs.length; rw [HL12.out.1, HN.out]; omega)
                have h6 := HV.out.2.2.2.2.1 qc.toNat (by omega)
                exact .inr ⟨qc.toNat, by omega, by rw [HL12.out.1, HN.out]; omega, h5.1, by have h7 : ig qs qc.toNat ≤ ig g.starts qc.toNat := h5.2; omega⟩
            have hqb : qb ≤ 1000 := by have h : qb ≤ g.budget := HDM.out.b0; rw [← HBU.out] at h; omega
            have hcr : qc = -1 ∨ 0 ≤ qc := by rcases hcc with h | ⟨k, h, _⟩ <;> omega
            have hnc : ∀ wy, Below w9.heap.size w9 wy → Calls Try.prog 24 #[.agg #[.int .i64 tn, .slice qsa n qsc, .slice qfa n qfc, .int .i64 qb, .int .i64 qc, .int .i64 qd], .int .i64 qc] wy (RetNx ⟨tn, qs, qf, qb, qc, qd⟩ qc qfa qfc wy) := fun wy hy => by
              have h := rnext_any (⟨tn, qs, qf, qb, qc, qd⟩ : Pos) qc qsa qfa qsc qfc wy (HPS9.out.later hy) (by show qs.length ≤ 50; rw [HL12.out.1]; omega) (by show 0 ≤ (tn : Int) ∧ (tn : Int) ≤ 1000; omega) hcc
              unfold psV at h
              simp only [HL12.out.1, HL12.out.2] at h
              exact h
            have HNC := Lib.hid hnc
            have HQB := Lib.hid hqb
            clear hnc hcc hqb hlk hk hgk
            obtain ⟨W, hW⟩ : ∃ W, W = maxL ((madeL (afterS (⟨tn, qs, qf, qb, qc, qd⟩ : Pos).st qc)).map (boundB g)) := ⟨_, rfl⟩
            have HW := Lib.hid hW
            have hWr : 0 ≤ W ∧ W ≤ 100 := by
              rw [hW]
              refine maxL_in (fun y hy => ?_) (by omega)
              obtain ⟨x, _, rfl⟩ := List.mem_map.1 hy
              have := boundB_in HV.out x; omega
            have hqd : qd = (if qc < 0 then 1 else 0) + (if (tn : Int) + 1 < (g.deps.length : Int) then W else 0) := by rw [hW]; exact HBD.out
            rw [← HND.out] at hqd
            have HQD := Lib.hid hqd
            have ht1 : IntKind.i64.wrap ((tn : Int) + 1) = (tn : Int) + 1 := IntWalk.i64_in _ (by omega)
            clear hW hqd
            rcases hcr with rfl | hc1
            · have LO := Lib.hid (show (if (-1 : Int) < 0 then (1 : Int) else 0) = 1 from by decide)
              go_wp2_with fail
              refine Calls.mono (HNC.out w9 (Below.refl _ _)) ?_
              rintro e wA ⟨sa', sc', rfl, hpn, hbA⟩
              have ePs : psV (posN ⟨tn, qs, qf, qb, -1, qd⟩ (-1)) sa' sc' qfa qfc = .agg #[.int .i64 ((tn : Int) + 1), .slice sa' n sc', .slice qfa n qfc, .int .i64 qb, .int .i64 0, .int .i64 0] := by
                unfold psV
                rw [posN_len]
                simp only [HL12.out.1]
                rw [show (posN ⟨tn, qs, qf, qb, -1, qd⟩ (-1)).failed.length = n from HL12.out.2]
                rfl
              rw [ePs]
              have HBA := Lib.hid hbA
              have h0A := HS0.out wA (HB89.out.trans (hbA.mono HB89.out.size))
              obtain ⟨_, -, -, -, -, -, -, -, -, -⟩ := h0A
              clear lb d0 d1 x0 x1 x2 x3 x4 x5
              obtain ⟨_, lb, d0, d1, x0, x1, x2, x3, x4, x5⟩ := HS0.out wA (HB89.out.trans (hbA.mono HB89.out.size))
              have hlA : w.heap.size < wA.heap.size := World.block_lt_of_cell? _ _ d0
              have hlA2 : wq.heap.size < wA.heap.size := World.block_lt_of_cell? _ _ x0
              have hlA4 : w4.heap.size < wA.heap.size := World.block_lt_of_cell? _ _ lb
              have HPN := Lib.hid hpn
              have HB9A := Lib.hid ((HB89.out.trans (hbA.mono HB89.out.size)))
              have HEP := Lib.hid ePs
              clear hpn hbA ePs
              go_upto_region 32 with fail
              refine wp_named ?_
              intro wZ hwZ
              obtain ⟨hbZ, _, hxZ, _⟩ := alloc1 wA [.int .i64 ((tn : Int) + 1), .slice sa' n sc', .slice qfa n qfc, .int .i64 qb, .int .i64 0, .int .i64 0] _ wZ hwZ
              have HB9Z := Lib.hid (HB9A.out.trans (hbZ.mono HB9A.out.size))
              have HB7Z := Lib.hid (HB78.out.trans (HB9Z.out.mono HB78.out.size))
              have HPZ := Lib.hid (HPN.out.later hbZ)
              clear lb d0 d1 x0 x1 x2 x3 x4 x5
              obtain ⟨_, lb, d0, d1, x0, x1, x2, x3, x4, x5⟩ := HS0.out wZ HB9Z.out
              have n0 := (hxZ 0 _ rfl).1
              have n1 := (hxZ 1 _ rfl).1
              have n2 := (hxZ 2 _ rfl).1
              have n3 := (hxZ 3 _ rfl).1
              have n4 := (hxZ 4 _ rfl).1
              have n5 := (hxZ 5 _ rfl).1
              clear hwZ hbZ hxZ hlA hlA2 hlA4
              by_cases hlast : tn + 1 < nd
              · have q1 : decide ((tn : Int) + 1 < (nd : Int)) = true := decide_eq_true (by omega)
                have q2 : decide (tn + 1 < nd) = true := decide_eq_true hlast
                have HE := Lib.hid (show qd = (1) + W from by rw [HQD.out, LO.out, if_pos (by omega)])
                have hna := HAF.out (posN ⟨tn, qs, qf, qb, -1, qd⟩ (-1)) sa' qfa sc' qfc wZ (HB67.out.trans (HB7Z.out.mono HB67.out.size)) HPZ.out (by rw [posN_len]; exact HL12.out.1) HL12.out.2 HQB.out (fun y hy => HNXT.out (by show (tn : Int) + 1 < (g.deps.length : Int); rw [← HND.out]; omega) y hy)
                rw [HEP.out, show maxL ((madeL (posN ⟨tn, qs, qf, qb, -1, qd⟩ (-1)).st).map (boundB g)) = W from HW.out.symm] at hna
                have HNA := Lib.hid hna
                clear hna
                go_wp2_with fail
                refine Calls.mono HNA.out ?_
                rintro e wB ⟨rfl, hbB⟩
                clear lb d0 d1 x0 x1 x2 x3 x4 x5 n0 n1 n2 n3 n4 n5
                obtain ⟨_, lb, d0, d1, x0, x1, x2, x3, x4, x5⟩ := HS0.out wB (HB9Z.out.trans (hbB.mono HB9Z.out.size))
                rw [HE.out] at x5
                have HBB := Lib.hid (HB7Z.out.trans (hbB.mono HB7Z.out.size))
                have wL : IntKind.i64.wrap ((1) + W) = (1) + W := IntWalk.i64_in _ (by omega)
                clear hbB
                have hllb := HLLM.out
                go_wp2_with fail
                go_roundg (ll - i)
                case measure => have := HLT.out; omega
                case rel => exact ⟨i + 1, HLT.out, by have := HLT.out; omega, by have := HLT.out; have := HLLM.out; go_num, rfl, HBB.out⟩
              · have q1 : decide ((tn : Int) + 1 < (nd : Int)) = false := decide_eq_false (by omega)
                have q2 : decide (tn + 1 < nd) = false := decide_eq_false hlast
                have HE := Lib.hid (show qd = (1) from by rw [HQD.out, LO.out, if_neg (by omega)]; rfl)
                rw [HE.out] at x5
                have hllb := HLLM.out
                go_wp2_with fail
                go_roundg (ll - i)
                case measure => have := HLT.out; omega
                case rel => exact ⟨i + 1, HLT.out, by have := HLT.out; omega, by have := HLT.out; have := HLLM.out; go_num, rfl, HB7Z.out⟩
            · have l1 : decide (qc < 0) = false := decide_eq_false (by omega)
              have l2 : ¬ qc < 0 := by omega
              have LO := Lib.hid (show (if qc < 0 then (1 : Int) else 0) = 0 from if_neg l2)
              go_wp2_with fail
              refine Calls.mono (HNC.out w9 (Below.refl _ _)) ?_
              rintro e wA ⟨sa', sc', rfl, hpn, hbA⟩
              have ePs : psV (posN ⟨tn, qs, qf, qb, qc, qd⟩ (qc)) sa' sc' qfa qfc = .agg #[.int .i64 ((tn : Int) + 1), .slice sa' n sc', .slice qfa n qfc, .int .i64 qb, .int .i64 0, .int .i64 0] := by
                unfold psV
                rw [posN_len]
                simp only [HL12.out.1]
                rw [show (posN ⟨tn, qs, qf, qb, qc, qd⟩ (qc)).failed.length = n from HL12.out.2]
                rfl
              rw [ePs]
              have HBA := Lib.hid hbA
              have h0A := HS0.out wA (HB89.out.trans (hbA.mono HB89.out.size))
              obtain ⟨_, -, -, -, -, -, -, -, -, -⟩ := h0A
              clear lb d0 d1 x0 x1 x2 x3 x4 x5
              obtain ⟨_, lb, d0, d1, x0, x1, x2, x3, x4, x5⟩ := HS0.out wA (HB89.out.trans (hbA.mono HB89.out.size))
              have hlA : w.heap.size < wA.heap.size := World.block_lt_of_cell? _ _ d0
              have hlA2 : wq.heap.size < wA.heap.size := World.block_lt_of_cell? _ _ x0
              have hlA4 : w4.heap.size < wA.heap.size := World.block_lt_of_cell? _ _ lb
              have HPN := Lib.hid hpn
              have HB9A := Lib.hid ((HB89.out.trans (hbA.mono HB89.out.size)))
              have HEP := Lib.hid ePs
              clear hpn hbA ePs
              go_upto_region 32 with fail
              refine wp_named ?_
              intro wZ hwZ
              obtain ⟨hbZ, _, hxZ, _⟩ := alloc1 wA [.int .i64 ((tn : Int) + 1), .slice sa' n sc', .slice qfa n qfc, .int .i64 qb, .int .i64 0, .int .i64 0] _ wZ hwZ
              have HB9Z := Lib.hid (HB9A.out.trans (hbZ.mono HB9A.out.size))
              have HB7Z := Lib.hid (HB78.out.trans (HB9Z.out.mono HB78.out.size))
              have HPZ := Lib.hid (HPN.out.later hbZ)
              clear lb d0 d1 x0 x1 x2 x3 x4 x5
              obtain ⟨_, lb, d0, d1, x0, x1, x2, x3, x4, x5⟩ := HS0.out wZ HB9Z.out
              have n0 := (hxZ 0 _ rfl).1
              have n1 := (hxZ 1 _ rfl).1
              have n2 := (hxZ 2 _ rfl).1
              have n3 := (hxZ 3 _ rfl).1
              have n4 := (hxZ 4 _ rfl).1
              have n5 := (hxZ 5 _ rfl).1
              clear hwZ hbZ hxZ hlA hlA2 hlA4
              by_cases hlast : tn + 1 < nd
              · have q1 : decide ((tn : Int) + 1 < (nd : Int)) = true := decide_eq_true (by omega)
                have q2 : decide (tn + 1 < nd) = true := decide_eq_true hlast
                have HE := Lib.hid (show qd = (0) + W from by rw [HQD.out, LO.out, if_pos (by omega)])
                have hna := HAF.out (posN ⟨tn, qs, qf, qb, qc, qd⟩ (qc)) sa' qfa sc' qfc wZ (HB67.out.trans (HB7Z.out.mono HB67.out.size)) HPZ.out (by rw [posN_len]; exact HL12.out.1) HL12.out.2 HQB.out (fun y hy => HNXT.out (by show (tn : Int) + 1 < (g.deps.length : Int); rw [← HND.out]; omega) y hy)
                rw [HEP.out, show maxL ((madeL (posN ⟨tn, qs, qf, qb, qc, qd⟩ (qc)).st).map (boundB g)) = W from HW.out.symm] at hna
                have HNA := Lib.hid hna
                clear hna
                go_wp2_with fail
                refine Calls.mono HNA.out ?_
                rintro e wB ⟨rfl, hbB⟩
                clear lb d0 d1 x0 x1 x2 x3 x4 x5 n0 n1 n2 n3 n4 n5
                obtain ⟨_, lb, d0, d1, x0, x1, x2, x3, x4, x5⟩ := HS0.out wB (HB9Z.out.trans (hbB.mono HB9Z.out.size))
                rw [HE.out] at x5
                have HBB := Lib.hid (HB7Z.out.trans (hbB.mono HB7Z.out.size))
                have wL : IntKind.i64.wrap ((0) + W) = (0) + W := IntWalk.i64_in _ (by omega)
                clear hbB
                have hllb := HLLM.out
                go_wp2_with fail
                go_roundg (ll - i)
                case measure => have := HLT.out; omega
                case rel => exact ⟨i + 1, HLT.out, by have := HLT.out; omega, by have := HLT.out; have := HLLM.out; go_num, rfl, HBB.out⟩
              · have q1 : decide ((tn : Int) + 1 < (nd : Int)) = false := decide_eq_false (by omega)
                have q2 : decide (tn + 1 < nd) = false := decide_eq_false hlast
                have HE := Lib.hid (show qd = (0) from by rw [HQD.out, LO.out, if_neg (by omega)]; rfl)
                rw [HE.out] at x5
                have hllb := HLLM.out
                go_wp2_with fail
                go_roundg (ll - i)
                case measure => have := HLT.out; omega
                case rel => exact ⟨i + 1, HLT.out, by have := HLT.out; omega, by have := HLT.out; have := HLLM.out; go_num, rfl, HB7Z.out⟩
    · obtain rfl : ll = i := by omega
      have HBE := Lib.hid (HB7.out.trans (HBR.out.mono HB7.out.size))
      clear hbr hlt
      go_wp2_with fail
      go_ret
      exact retB rfl HBE.out
theorem walk (W : World) (g : Gm) (ga : Option Addr) (gc : Nat) (gd : Option Addr) (ge : Nat) (gG : GmAt W g ga gd) (gB : GmBig g) :
    Calls Try.prog 7 #[gmV g ga gc gd ge] W (RetB (.bool true) W) := all g ga gd gc ge W gG gB
end GamePlans
namespace GamePlans
set_option maxRecDepth 100000 in
theorem entry (H : Type) (enc : TypeId × Value → H) (W : World) (base : Nat) (args : Array Value) (ds : List (DataW H)) (p : List MemPlace)
    (hval : ∀ (j : Nat) t v, Try.f7.params[j]? = some t → args[j]? = some v → Value.okWide Try.prog W .any base t v)
    (hA : DataW.TrodAll enc Try.prog W 0 (fun _ => true) true Try.f7.params.toList args.toList ds p) :
    Calls Try.prog 7 args W (RetB (.bool true) W) := by
  rw [Try.params7] at hA hval
  obtain ⟨v0, vs0, d0, ds0, p0, q0, hargs, rfl, rfl, h0, r0⟩ := trodAll_cons hA
  obtain ⟨rfl, rfl, rfl⟩ := trodAll_nil r0
  obtain rfl : args = #[v0] := by cases args; simp_all
  obtain ⟨g, ga, gc, gd, ge, rfl, gG, gB⟩ := open_game (hval 0 25 v0 rfl rfl) h0
  exact walk W g ga gc gd ge gG gB
end GamePlans
/-! The step from the walk to the row of GamePlans. -/
namespace GamePlans
set_option maxRecDepth 100000 in
theorem lifted (os : Os) (started : os.Started) (H : Type) (enc : TypeId × Value → H) :
    ReturnsInHanded {} Try.checked os 7 .any (Rows.gamePlansSpec.pre6 enc Try.prog Try.f7 Rows.gamePlansRow.domain false) (Rows.gamePlansSpec.post enc Try.prog Try.f7 false true false false) := by
  refine returnsInHanded_of_change (C := Try.checked) own started (by kernel_rfl) Try.func7
    (ChangeSpec.witness6 (enc := enc) (C := Try.checked) false ⟨#[], #[.agg #[.slice none 0 0, .slice none 0 0, .int .i64 0]], []⟩ 8 (by kernel_rfl) (by kernel_rfl) (by kernel_rfl) (by kernel_rfl)) ?_
  intro W base args ds gs before hval0 hW hcnd _
  have hval : ∀ (j : Nat) t v, Try.f7.params[j]? = some t → args[j]? = some v → Value.okWide Try.prog W .any base t v := hval0
  have hW' := hW
  obtain ⟨p, q, hA0, hV, rfl, hfz, hnd⟩ := hW
  have hA : DataW.TrodAll enc Try.prog W 0 (fun _ => true) true Try.f7.params.toList args.toList ds p := hA0
  obtain ⟨rfl, rfl⟩ := trodVars_none hV
  have hlen := trodAll_len _ _ _ _ hA
  obtain ⟨d0, rfl⟩ : ∃ d0, ds = [d0] := by
    rw [Try.params7] at hlen
    exact list1 hlen
  refine (entry H enc W base args [d0] p hval hA).mono fun e W' ⟨he, bel⟩ => ?_
  subst he
  exact ⟨_, rfl, _, _, _, [], _, [], hW', trodAll_mk1 (shut_bool Try.underlying4 _), readback laidOut _ _ _ _ (by rw [Try.params7]; exact of_decide_eq_true (by kernel_rfl)) hA bel, rfl, bel.frame _, fun h => by cases h⟩

theorem over : Rows.gamePlansRow.holds Try.pinned (OpenSpec.ofChange Rows.gamePlansSpec) :=
  OpenClaim.holds_of_wide 7 Try.f7 rfl rfl rfl rfl rfl rfl rfl ⟨rfl, rfl, rfl, rfl, rfl⟩ rfl rfl rfl rfl rfl (by kernel_rfl) Try.func7 (by kernel_rfl)
    (of_decide_eq_true (by kernel_rfl)) (by unfold Func.isWrapper; first | (rw [if_pos (by decide +kernel)]; kernel_rfl) | (rw [if_neg (by decide +kernel)]; exact ⟨rfl, rfl⟩))
    (fun os started H enc _ => lifted os started H enc)

/-- THE STATEMENT -/
theorem proved : Rows.GamePlansSaid := over
end GamePlans
#print axioms GamePlans.proved
end Go.Proofs.Ytlkknoooeldomaa

