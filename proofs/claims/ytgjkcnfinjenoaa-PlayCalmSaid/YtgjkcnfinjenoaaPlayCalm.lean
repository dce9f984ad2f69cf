



/- For every game and plan that gets stuck against no allowed failures: against none at all it loses from 0 to as many departures as there are, and not more than against the worst ones; with the budget 0 in the game, and the positions of the game's own budget alone, just this is the worst (few departures, vehicles and positions, else nothing is said). -/
import Derived.Test.YtgjkcnfinjenoaaPM4
import Derived.Test.YtgjkcnfinjenoaaLift
namespace Go.Proofs.Ytgjkcnfinjenoaa
open Go.ChangeShapes Go.WideShapes Go.ChangeAt Go.RowKit Go.Joins
namespace PlayCalm
/-- the positions of a budget, with none left, as they lie -/
def stillPA (b : Int) (l : List PA) : List PA := (l.filter fun x => decide (x.1.budget = b)).map fun x => (posC0 x.1, x.2)
theorem stillPA_map (b : Int) (l : List PA) : (stillPA b l).map (·.1) = stillL b (l.map (·.1)) := by
  unfold stillPA stillL
  rw [List.filter_map, List.map_map, List.map_map]
  rfl
theorem stillPA_snoc (b : Int) (l : List PA) (x : PA) : stillPA b (l ++ [x]) = stillPA b l ++ if x.1.budget = b then [(posC0 x.1, x.2)] else [] := by
  unfold stillPA
  rw [List.filter_append, List.map_append]
  by_cases h : x.1.budget = b
  · rw [if_pos h, List.filter_cons_of_pos (by simpa using h)]
    rfl
  · rw [if_neg h, List.filter_cons_of_neg (by simpa using h)]
    rfl
theorem stillPA_len (b : Int) (l : List PA) : (stillPA b l).length ≤ l.length := by
  unfold stillPA
  rw [List.length_map]
  exact List.length_filter_le _ _
theorem stillPA_ps {w : World} {b : Int} {l : List PA} (h : PsAll w l) : PsAll w (stillPA b l) := fun x hx => by
  obtain ⟨y, hy, rfl⟩ := List.mem_map.1 hx
  have h1 := h y (List.mem_filter.1 hy).1
  exact ⟨h1.s, h1.f⟩
theorem stillPA_in {b : Int} {l : List PA} (h : InP l) : InP (stillPA b l) := fun x hx hok => by
  obtain ⟨y, hy, rfl⟩ := List.mem_map.1 hx
  have h1 := h y (List.mem_filter.1 hy).1 hok
  exact ⟨h1.1, ⟨by show -9223372036854775808 ≤ (0 : Int); omega, by show (0 : Int) < 9223372036854775808; omega⟩, h1.2.2⟩
theorem rep_snoc (i : Nat) : List.replicate i (-1 : Int) ++ [-1] = List.replicate (i + 1) (-1) := List.replicate_succ'.symm
set_option maxRecDepth 100000 in
set_option maxHeartbeats 8000000 in
theorem all (g : Gm) (sa da : Option Addr) (sc dc : Nat) (l : List PA) (a : Option Addr) (c : Nat) (w : World) (hG : GmAt w g sa da) (hB : GmBig g) (hL : LaP w a l) (hI : InP l) (hll : l.length < 9223372036854775808) : Calls Try.prog 7 #[gmV g sa sc da dc, .slice a l.length c] w (RetB (.bool true) w) := by
  have hwo := fun (h : FewP g l) (wy : World) (hy : Below w.heap.size w wy) => worst_any g sa da sc dc l a c wy (hG.later hy) h.few (hL.later hy) hI (by have := h.n; omega)
  have hlo := fun (h : FewP g l) (E : List Int) (ea : Option Addr) (ec : Nat) (wy : World) (hy : Below w.heap.size w wy) (hE : Ints wy ea E) (hEl : E.length ≤ 1000) => lost_any g sa da sc dc l a c E ea ec wy (hG.later hy) h.few (hL.later hy) hI (by have := h.n; omega) hE hEl
  have hwc := fun (h : FewP g l) (ka : Option Addr) (kc : Nat) (wy : World) (hy : Below w.heap.size w wy) (hk : LaP wy ka (stillPA g.budget l)) => worst_any (calmG g) sa da sc dc (stillPA g.budget l) ka kc wy (show GmAt wy (calmG g) sa da from ⟨(hG.later hy).s, (hG.later hy).d⟩) ⟨h.few.s, h.few.d, h.few.r⟩ hk (stillPA_in hI) (by have h1 := h.n; have h2 := stillPA_len g.budget l; omega)
  have hps := fun (b : Int) (wy : World) (hy : Below w.heap.size w wy) => stillPA_ps (b := b) (hL.later hy).ps
  simp only [lostV_eq] at hlo
  have HWO := Lib.hid hwo
  have HLO := Lib.hid hlo
  have HWC := Lib.hid hwc
  have HPS := Lib.hid hps
  clear hwo hlo hwc hps
  have hfe := fun (wy : World) (hy : Below w.heap.size w wy) => fewp_any g sa da sc dc l a c wy (hG.later hy) (hL.later hy) hll hB.d
  have HFE := Lib.hid hfe
  have HL := Lib.hid hL
  clear hG hB hL hI hfe
  go_enter Try.func7, Try.ntmps7
  go_wp2_with fail
  refine calls_named ?_
  intro w0 hw0
  obtain ⟨hbx, -, hx, -⟩ := alloc1 w [.slice sa g.starts.length sc, .slice da g.deps.length dc, .int .i64 g.budget] 25 w0 hw0
  have HX := Lib.hid hx
  have HBX := Lib.hid hbx
  clear hw0 hx hbx
  refine Calls.mono (headp_any w0) ?_
  rintro e w1 ⟨rfl, hb1⟩
  have HB1 := Lib.hid (HBX.out.trans (hb1.mono HBX.out.size))
  have hx1 := HX.out.later hb1
  have HX1 := Lib.hid hx1
  have c0 := (hx1 0 _ rfl).1
  have c1 := (hx1 1 _ rfl).1
  have c2 := (hx1 2 _ rfl).1
  clear hb1 hx1
  go_wp2_with fail
  refine Calls.mono (HFE.out w1 HB1.out) ?_
  rintro e w2 ⟨hb2, hcase⟩
  have HB2 := Lib.hid (HB1.out.trans (hb2.mono HB1.out.size))
  have hx2 := HX1.out.later hb2
  have HX2 := Lib.hid hx2
  clear c0 c1 c2
  have c0 := (hx2 0 _ rfl).1
  have c1 := (hx2 1 _ rfl).1
  have c2 := (hx2 2 _ rfl).1
  clear hb2 hx2
  rcases hcase with rfl | ⟨rfl, hfew⟩
  · go_wp2_with fail
    go_ret
    exact retB rfl HB2.out
  have HFP := Lib.hid hfew
  clear hfew
  go_wp2_with fail
  refine Calls.mono (HWO.out HFP.out w2 HB2.out) ?_
  rintro e w3 ⟨b, d, rfl, -, hb3⟩
  have hfact := worst_fact g (l.map (·.1))
  obtain ⟨V, hV⟩ : ∃ V, V = worstV g (l.map (·.1)) := ⟨_, rfl⟩
  rw [← hV] at hfact ⊢
  obtain ⟨W, m, e0⟩ := V
  simp only at hfact ⊢
  have HFA := Lib.hid hfact
  obtain ⟨Wn, hWn⟩ : ∃ n, n = W.length := ⟨_, rfl⟩
  rw [← hWn]
  clear hfact hV hWn
  (have HB3 := Lib.hid (HB2.out.trans (hb3.mono HB2.out.size)); have hx3 := HX2.out.later hb3; have HX3 := Lib.hid hx3; clear c0 c1 c2; have c0 := (hx3 0 _ rfl).1; have c1 := (hx3 1 _ rfl).1; have c2 := (hx3 2 _ rfl).1; clear hb3 hx3)
  by_cases h0 : e0 = 0
  · obtain ⟨hvg, hok, -⟩ := HFA.out.ok h0
    subst h0
    obtain ⟨x, hlx, hx0, hxm, hcw⟩ := hok.calm hvg
    have hmd := hok.in.2.1
    have HLX := Lib.hid hlx
    have HCW := Lib.hid hcw
    obtain ⟨nd, hnd⟩ : ∃ n, n = g.deps.length := ⟨_, rfl⟩
    have hnd5 : nd ≤ 5 := by rw [hnd]; exact HFP.out.d
    rw [← hnd] at hmd c1
    have HND := Lib.hid hnd
    have HC1 := Lib.hid c1
    clear hvg hok hlx hcw hnd c0 c2
    go_wp2_with fail
    clear c1
    go_loopg [9, 10] (nd + 1) (fun gk v9 v10 wr => ∃ (i : Nat) (nv : Value), i ≤ nd ∧ gk + i = nd + 1 ∧ v10 = .int .i64 i ∧ nv = v9 ∧ EI.Own wr w3.heap.size nv (List.replicate i (-1)) ∧ Below w3.heap.size w3 wr)
    case atStart => exact ⟨0, _, by omega, by omega, rfl, rfl, El.Own.nil _ _ _, Below.refl _ _⟩
    case round =>
      obtain ⟨i, nv, hi, hgi, rfl, rfl, hown, hbr⟩ := hrel
      obtain ⟨wq, hwq⟩ : ∃ wq, wq = wr := ⟨_, rfl⟩
      subst hwq
      have c1 := cell_later hbr HC1.out
      by_cases hlt : i < nd
      · have hEm : Below wq.heap.size wq (wq.alloc (.cells #[.int .i64 (-1)] 3)) := (Below.refl _ _).alloc (Nat.le_refl _) _
        obtain ⟨v2, w5, hr, ho, hg, -⟩ := El.app (E := EI) _ w3.heap.size nv (List.replicate i (-1)) [-1] (hown.later hEm) (some ⟨wq.heap.size, 0, none⟩) 1 (El.at_lit' EI wq [-1] _ _ rfl) (by simp; omega) (by have := hbr.size; simp; omega) 22
        rw [rep_snoc] at ho
        have hb5 : Below w3.heap.size w3 w5 := (hbr.trans (hEm.mono hbr.size)).grown hg (Nat.le_trans hbr.size hEm.size) (fun b hb => ((hown.later hEm).lt b hb).1)
        have HR := Lib.hid hr
        have HO := Lib.hid ho
        have HB5 := Lib.hid hb5
        have HLT := Lib.hid hlt
        have i1 : (i : Int) < (nd : Int) := by omega
        have i0 : (0 : Int) ≤ (i : Int) := by omega
        have wv : IntKind.i64.wrap ((i : Int) + 1) = (i : Int) + 1 := IntWalk.i64_in _ (by omega)
        clear hEm hr ho hg hb5 hown hbr hlt
        go_wp2_with (at_builtin; go_loud (refine wpList_app_eq rfl _ _ _ rfl _ _ rfl rfl HR.out ?_))
        go_roundg (nd - i)
        case measure => have := HLT.out; omega
        case rel => exact ⟨i + 1, _, HLT.out, by have := HLT.out; omega, by go_num, rfl, HO.out, HB5.out⟩
      · obtain rfl : nd = i := by omega
        have hbq := HB3.out.trans (hbr.mono HB3.out.size)
        obtain ⟨na, nc, rfl, -, -, hat, -⟩ := hown.at
        rw [List.length_replicate]
        have hc1 := HLO.out HFP.out (List.replicate nd (-1)) na nc wq hbq hat.ints (by simp; omega)
        rw [List.length_replicate] at hc1
        have hlx2 := HLX.out
        rw [← HND.out] at hlx2
        rw [hlx2] at hc1
        simp only [gmV, ← HND.out] at hc1
        have HLOC := Lib.hid hc1
        have HNI := Lib.hid hat.ints
        have HBQ := Lib.hid hbq
        have hxq := HX3.out.later hbr
        have HXQ := Lib.hid hxq
        have c0 := (hxq 0 _ rfl).1
        have c2 := (hxq 2 _ rfl).1
        have HC1Q := Lib.hid c1
        clear hbq hat hc1 hlx2 hxq hown hbr hlt hgi
        go_wp2_with fail
        refine Calls.mono HLOC.out ?_
        rintro e w6 ⟨rfl, hb6⟩
        have HNI6 := Lib.hid (HNI.out.later hb6)
        have HB6 := Lib.hid (HBQ.out.trans (hb6.mono HBQ.out.size))
        have HX6 := Lib.hid (HXQ.out.later hb6)
        have d1 := cell_later hb6 c1
        have d0 := cell_later hb6 c0
        have d2 := cell_later hb6 c2
        clear c0 c1 c2 hb6
        have f1 : decide (x < 0) = false := decide_eq_false (by omega)
        have f2 : decide (m < x) = false := decide_eq_false (by omega)
        have f3 : decide ((nd : Int) < m) = false := decide_eq_false (by omega)
        go_upto_region 16 with fail
        refine wp_named ?_
        intro w7 hw7
        obtain ⟨hb7, -, hx7, -⟩ := alloc1 w6 [.slice sa g.starts.length sc, .slice da nd dc, .int .i64 g.budget] 25 w7 hw7
        obtain ⟨C, hC⟩ : ∃ C, C = w6.heap.size := ⟨_, rfl⟩
        rw [← hC] at hx7 ⊢
        have HB7 := Lib.hid hb7
        have HX7 := Lib.hid hx7
        have HCE := Lib.hid hC
        obtain ⟨q2, q2f⟩ := hx7 2 _ rfl
        clear hw7 hb7 hx7 hC d0 d1 d2 f1 f2 f3
        go_upto_region 17 with fail
        refine wp_named ?_
        intro w8 hw8
        have hb8 : Below w6.heap.size w6 w8 := by rw [hw8]; exact HB7.out.setCell (p := ⟨C, 2, none⟩) (show w6.heap.size ≤ C by rw [HCE.out]; exact Nat.le_refl _) _
        have HX8 := Lib.hid (show BoxAt w8 C [.slice sa g.starts.length sc, .slice da nd dc, .int .i64 0] from by rw [hw8]; exact HX7.out.put 2 _ (by simp))
        have HB8 := Lib.hid (HB6.out.trans (hb8.mono HB6.out.size))
        have HBX8 := Lib.hid (HX6.out.later hb8)
        have HNI8 := Lib.hid (HNI6.out.later hb8)
        obtain ⟨ll, hlq⟩ : ∃ n, n = l.length := ⟨_, rfl⟩
        have hl400 : ll ≤ 400 := by rw [hlq]; exact HFP.out.n
        obtain ⟨bu, hbu⟩ : ∃ n, n = g.budget := ⟨_, rfl⟩
        rw [← hlq]
        have HLQ := Lib.hid hlq
        have HBU := Lib.hid hbu
        clear hw8 hb8 q2 q2f hlq hbu hll
        go_wp2_with fail
        go_loopg [14, 15] (ll + 1) (fun gk v14 v15 wr => ∃ (i : Nat) (sv : Value), i ≤ ll ∧ gk + i = ll + 1 ∧ v15 = .int .i64 i ∧ sv = v14 ∧ EQ.Own wr w8.heap.size sv (stillPA bu (l.take i)) ∧ Below w8.heap.size w8 wr)
        case atStart => exact ⟨0, _, by omega, by omega, rfl, rfl, El.Own.nil _ _ _, Below.refl _ _⟩
        case round =>
          obtain ⟨i, sv, hi, hgi, rfl, rfl, hown, hbr⟩ := hrel
          obtain ⟨wq, hwq⟩ : ∃ wq, wq = wr := ⟨_, rfl⟩
          subst hwq
          have HOW := Lib.hid hown
          have HBR := Lib.hid hbr
          have HBW := Lib.hid (HB8.out.trans (hbr.mono HB8.out.size))
          clear hown hbr
          by_cases hlt : i < ll
          · have hiL : i < l.length := by have := HLQ.out; omega
            have hLq := HL.out.later HBW.out
            obtain ⟨pb0, off, rfl, _⟩ := hLq.at'.head (by omega)
            have hrng := hLq.at'.range hiL
            rw [show off + i * EQ.S = off + i * 6 from rfl] at hrng
            have htk : stillPA bu (l.take (i + 1)) = stillPA bu (l.take i) ++ if l[i].1.budget = bu then [(posC0 l[i].1, l[i].2)] else [] := by
              rw [take_snoc hiL, stillPA_snoc]
            have hln := stillPA_len bu (l.take i)
            rw [List.length_take] at hln
            obtain ⟨x', hx'⟩ : ∃ x, x = l[i] := ⟨_, rfl⟩
            rw [← hx'] at hrng htk
            obtain ⟨p, psa, psc, pfa, pfc⟩ := x'
            simp only at htk
            obtain ⟨pn, hpn⟩ : ∃ n, n = p.starts.length := ⟨_, rfl⟩
            obtain ⟨pm, hpm⟩ : ∃ n, n = p.failed.length := ⟨_, rfl⟩
            obtain ⟨pt, hpt⟩ : ∃ n, n = p.turn := ⟨_, rfl⟩
            obtain ⟨pb, hpb2⟩ : ∃ n, n = p.budget := ⟨_, rfl⟩
            obtain ⟨pc, hpc⟩ : ∃ n, n = p.choice := ⟨_, rfl⟩
            obtain ⟨pd, hpd⟩ : ∃ n, n = p.bound := ⟨_, rfl⟩
            have hrng' : wq.rangeAt pb0 (off + i * 6) [.int .i64 pt, .slice psa pn psc, .slice pfa pm pfc, .int .i64 pb, .int .i64 pc, .int .i64 pd] := by rw [hpn, hpm, hpt, hpb2, hpc, hpd]; exact hrng
            have hcf : psCs (posC0 p, (psa, psc, pfa, pfc)) = [.int .i64 pt, .slice psa pn psc, .slice pfa pm pfc, .int .i64 0, .int .i64 pc, .int .i64 pd] := by rw [hpn, hpm, hpt, hpc, hpd]; rfl
            have x0 : wq.cell? ⟨pb0, off + i * 6, none⟩ = some (.int .i64 pt) := hrng' 0 _ rfl
            have x1 : wq.cell? ⟨pb0, off + i * 6 + 1, none⟩ = some (.slice psa pn psc) := hrng' 1 _ rfl
            have x2 : wq.cell? ⟨pb0, off + i * 6 + 2, none⟩ = some (.slice pfa pm pfc) := hrng' 2 _ rfl
            have x3 : wq.cell? ⟨pb0, off + i * 6 + 3, none⟩ = some (.int .i64 pb) := hrng' 3 _ rfl
            have x4 : wq.cell? ⟨pb0, off + i * 6 + 4, none⟩ = some (.int .i64 pc) := hrng' 4 _ rfl
            have x5 : wq.cell? ⟨pb0, off + i * 6 + 5, none⟩ = some (.int .i64 pd) := hrng' 5 _ rfl
            have y2 : wq.cell? ⟨w.heap.size, 2, none⟩ = some (.int .i64 bu) := by rw [HBU.out]; exact ((HBX8.out.later HBR.out) 2 _ rfl).1
            rw [← hpb2] at htk
            have HTK := Lib.hid htk
            have HCF := Lib.hid hcf
            have HLN := Lib.hid hln
            have HLT := Lib.hid hlt
            have i1 : (i : Int) < (ll : Int) := by omega
            have i0 : (0 : Int) ≤ (i : Int) := by omega
            have wv : IntKind.i64.wrap ((i : Int) + 1) = (i : Int) + 1 := IntWalk.i64_in _ (by omega)
            have hS : ∀ wy : World, Below wq.heap.size wq wy → wy.cell? ⟨pb0, off + i * 6 + 3, none⟩ = some (.int .i64 pb) ∧ wy.cell? ⟨w.heap.size, 2, none⟩ = some (.int .i64 bu) := fun wy hy => ⟨cell_later hy x3, cell_later hy y2⟩
            clear hiL hLq hrng hrng' hx' hpn hpm hpt hpb2 hpc hpd hcf htk hln hlt
            go_wp2_with fail
            refine wp_flow_s [] [] (by kernel_rfl) (by kernel_rfl) (by kernel_rfl) ?_
            repeat (first | ((with_reducible refine Flow.pure hS StayG.nil (v := ?_) ?_ ?_ ?_ ?_); rotate_left 1; (focus kernel_rfl); (focus (intro _; rfl)); (focus (intro β wx hSw; (try dsimp only at hSw); go_simp; (try with_reducible rfl); done)); (try simp only [Act.put, List.setIfInBounds_toArray, List.set_cons_zero, List.set_cons_succ, Nat.reduceAdd])))
            ((with_reducible refine Flow.stop ?_); dsimp only; intro β w9 hI9)
            have z0 := cell_later hI9.below x0
            have z1 := cell_later hI9.below x1
            have z2 := cell_later hI9.below x2
            have z3 := cell_later hI9.below x3
            have z4 := cell_later hI9.below x4
            have z5 := cell_later hI9.below x5
            have HO9 := Lib.hid (HOW.out.later hI9.below)
            have HB9 := Lib.hid (HBR.out.trans (hI9.below.mono HBR.out.size))
            clear hS hI9 x0 x1 x2 x3 x4 x5 y2
            by_cases hpb : pb = bu
            · have e1 : (pb == bu) = true := by simpa using hpb
              have HEL := Lib.hid (show stillPA bu (l.take (i + 1)) = stillPA bu (l.take i) ++ [(posC0 p, (psa, psc, pfa, pfc))] from by rw [HTK.out, if_pos hpb])
              clear hpb
              go_upto_region 23 with fail
              refine wp_named ?_
              intro wa hwa
              obtain ⟨hba, -, hxa, -⟩ := alloc1 w9 [.int .i64 pt, .slice psa pn psc, .slice pfa pm pfc, .int .i64 pb, .int .i64 pc, .int .i64 pd] 42 wa hwa
              obtain ⟨Q, hQ⟩ : ∃ Q, Q = w9.heap.size := ⟨_, rfl⟩
              rw [← hQ] at hxa ⊢
              obtain ⟨q3, q3f⟩ := hxa 3 _ rfl
              have HBA := Lib.hid hba
              have HXA := Lib.hid hxa
              have HQ := Lib.hid hQ
              clear hwa hba hxa hQ z0 z1 z2 z3 z4 z5 e1
              go_upto_region 24 with fail
              refine wp_named ?_
              intro wb hwb
              have hbb : Below w9.heap.size w9 wb := by rw [hwb]; exact HBA.out.setCell (p := ⟨Q, 3, none⟩) (show w9.heap.size ≤ Q by rw [HQ.out]; exact Nat.le_refl _) _
              have hxb : BoxAt wb Q [.int .i64 pt, .slice psa pn psc, .slice pfa pm pfc, .int .i64 0, .int .i64 pc, .int .i64 pd] := by rw [hwb]; exact HXA.out.put 3 _ (by simp)
              have z0 := (hxb 0 _ rfl).1
              have z1 := (hxb 1 _ rfl).1
              have z2 := (hxb 2 _ rfl).1
              have z3 := (hxb 3 _ rfl).1
              have z4 := (hxb 4 _ rfl).1
              have z5 := (hxb 5 _ rfl).1
              have hEm : Below wb.heap.size wb (wb.alloc (.cells #[.int .i64 pt, .slice psa pn psc, .slice pfa pm pfc, .int .i64 0, .int .i64 pc, .int .i64 pd] 42)) := (Below.refl _ _).alloc (Nat.le_refl _) _
              have hob := (HO9.out.later hbb).later hEm
              have hs8 : w8.heap.size ≤ wb.heap.size := Nat.le_trans HB9.out.size hbb.size
              obtain ⟨v2, wc, hr, ho, hg, -⟩ := El.app (E := EQ) _ w8.heap.size sv (stillPA bu (l.take i)) [(posC0 p, (psa, psc, pfa, pfc))] hob (some ⟨wb.heap.size, 0, none⟩) 1 (El.at_lit' EQ wb [(posC0 p, (psa, psc, pfa, pfc))] _ _ (by
                show _ = (psCs (posC0 p, (psa, psc, pfa, pfc)) ++ []).toArray
                rw [HCF.out]
                rfl)) (by have := HLN.out; simp; omega) (Nat.le_trans hs8 hEm.size) 26
              rw [← HEL.out] at ho
              have hbc : Below w8.heap.size w8 wc := ((HB9.out.trans (hbb.mono HB9.out.size)).trans (hEm.mono hs8)).grown hg (Nat.le_trans hs8 hEm.size) (fun b hb => (hob.lt b hb).1)
              have HR := Lib.hid hr
              have HO := Lib.hid ho
              have HBC := Lib.hid hbc
              clear hwb hbb hxb hEm hob hs8 hr ho hg hbc q3 q3f
              go_wp2_with (at_builtin; go_loud (refine wpList_app_eq rfl _ _ _ rfl _ _ rfl rfl HR.out ?_))
              go_roundg (ll - i)
              case measure => have := HLT.out; omega
              case rel => exact ⟨i + 1, _, HLT.out, by have := HLT.out; omega, by go_num, rfl, HO.out, HBC.out⟩
            · have e1 : (pb == bu) = false := by simpa using hpb
              have HO := Lib.hid (show EQ.Own w9 w8.heap.size sv (stillPA bu (l.take (i + 1))) from by rw [HTK.out, if_neg hpb, List.append_nil]; exact HO9.out)
              clear hpb z0 z1 z2 z3 z4 z5
              go_wp2_with fail
              go_roundg (ll - i)
              case measure => have := HLT.out; omega
              case rel => exact ⟨i + 1, _, HLT.out, by have := HLT.out; omega, by go_num, rfl, HO.out, HB9.out⟩
          · obtain rfl : ll = i := by omega
            obtain ⟨ka, kc, rfl, -, -, hat, -⟩ := HOW.out.at
            rw [List.take_of_length_le (by rw [HLQ.out]; exact Nat.le_refl _)] at hat
            have hk : LaP wq ka (stillPA g.budget l) := ⟨by rw [← HBU.out]; exact hat, HPS.out g.budget wq HBW.out⟩
            have hlen : (stillPA bu (l.take ll)).length = (stillPA g.budget l).length := by rw [List.take_of_length_le (by rw [HLQ.out]; exact Nat.le_refl _), HBU.out]
            rw [hlen]
            have hwc : Calls Try.prog 13 #[.agg #[.slice sa g.starts.length sc, .slice da nd dc, .int .i64 0], .slice ka (stillPA g.budget l).length kc] wq (fun e w' => ∃ a c, e = .returned (.tuple #[.slice a nd c, .int .i64 x, .int .i64 0]) ∧ IntsN wq.heap.size w' a (List.replicate nd (-1)) ∧ Below wq.heap.size wq w') := by
              rw [HND.out]
              have h := HWC.out HFP.out ka kc wq HBW.out hk
              refine Calls.mono h ?_
              rintro e w' ⟨a1, c1, rfl, h1, h2⟩
              rw [stillPA_map, HCW.out] at h1 ⊢
              exact ⟨a1, c1, by simp only [List.length_replicate], h1, h2⟩
            obtain ⟨kn, hkn⟩ : ∃ n, n = (stillPA g.budget l).length := ⟨_, rfl⟩
            rw [← hkn] at hwc ⊢
            have HWCC := Lib.hid hwc
            have hxq := HX8.out.later HBR.out
            have c0 := (hxq 0 _ rfl).1
            have c1 := (hxq 1 _ rfl).1
            have c2 := (hxq 2 _ rfl).1
            have HNQ := Lib.hid (HNI8.out.later HBR.out)
            clear hat hk hwc hlen hkn hxq hlt hgi
            go_wp2_with fail
            refine Calls.mono HWCC.out ?_
            rintro e wd ⟨ra, rc, rfl, hir, hbd⟩
            have HBD := Lib.hid (HBW.out.trans (hbd.mono HBW.out.size))
            have hri := rints_any (List.replicate nd (-1)) (List.replicate nd (-1)) ra na rc nc wd hir.ints (HNQ.out.later hbd) (by simp; omega)
            rw [decide_eq_true rfl, List.length_replicate] at hri
            have HRI := Lib.hid hri
            clear hir hbd hri c0 c1 c2
            go_wp2_with fail
            refine Calls.mono HRI.out ?_
            rintro e we ⟨rfl, hbe⟩
            have HBE := Lib.hid (HBD.out.trans (hbe.mono HBD.out.size))
            clear hbe
            go_wp2_with fail
            go_ret
            exact retB rfl HBE.out
  · have e1 : (e0 == (0 : Int)) = false := by simpa using h0
    go_wp2_with fail
    go_ret
    exact retB rfl HB3.out
theorem walk (w : World) (g : Gm) (sa : Option Addr) (sc : Nat) (da : Option Addr) (dc : Nat) (hG : GmAt w g sa da) (hB : GmBig g) (l : List PA) (a : Option Addr) (c : Nat) (hL : LaP w a l) (hI : InP l) (hll : l.length < 9223372036854775808) : Calls Try.prog 7 #[gmV g sa sc da dc, .slice a l.length c] w (RetB (.bool true) w) :=
  all g sa da sc dc l a c w hG hB hL hI hll
end PlayCalm
namespace PlayCalm
set_option maxRecDepth 100000 in
theorem entry (H : Type) (enc : TypeId × Value → H) (W : World) (base : Nat) (args : Array Value) (ds : List (DataW H)) (p : List MemPlace)
    (hval : ∀ (j : Nat) t v, Try.f7.params[j]? = some t → args[j]? = some v → Value.okWide Try.prog W .any base t v)
    (hA : DataW.TrodAll enc Try.prog W 0 (fun _ => true) true Try.f7.params.toList args.toList ds p) :
    Calls Try.prog 7 args W (RetB (.bool true) W) := by
  rw [Try.params7] at hA hval
  obtain ⟨v0, vs0, d0, ds0, p0, q0, hargs, rfl, rfl, h0, r0⟩ := trodAll_cons hA
  obtain ⟨v1, vs1, d1, ds1, p1, q1, rfl, rfl, rfl, h1, r1⟩ := trodAll_cons r0
  obtain ⟨rfl, rfl, rfl⟩ := trodAll_nil r1
  obtain rfl : args = #[v0, v1] := by cases args; simp_all
  obtain ⟨g, ga, gc, gd, ge, rfl, gG, gB⟩ := open_game (hval 0 25 v0 rfl rfl) h0
  obtain ⟨plan, plana, planc, rfl, planL, planI, plann⟩ := open_plan (hval 1 26 v1 rfl rfl) h1
  exact walk W g ga gc gd ge gG gB plan plana planc planL planI plann
end PlayCalm
/-! The step from the walk to the row of PlayCalm. -/
namespace PlayCalm
set_option maxRecDepth 100000 in
theorem lifted (os : Os) (started : os.Started) (H : Type) (enc : TypeId × Value → H) :
    ReturnsInHanded {} Try.checked os 7 .any (Rows.playCalmSpec.pre6 enc Try.prog Try.f7 Rows.playCalmRow.domain false) (Rows.playCalmSpec.post enc Try.prog Try.f7 false true false false) := by
  refine returnsInHanded_of_change (C := Try.checked) own started (by kernel_rfl) Try.func7
    (ChangeSpec.witness6 (enc := enc) (C := Try.checked) false ⟨#[], #[.agg #[.slice none 0 0, .slice none 0 0, .int .i64 0], .slice none 0 0], []⟩ 8 (by kernel_rfl) (by kernel_rfl) (by kernel_rfl) (by kernel_rfl)) ?_
  intro W base args ds gs before hval0 hW hcnd _
  have hval : ∀ (j : Nat) t v, Try.f7.params[j]? = some t → args[j]? = some v → Value.okWide Try.prog W .any base t v := hval0
  have hW' := hW
  obtain ⟨p, q, hA0, hV, rfl, hfz, hnd⟩ := hW
  have hA : DataW.TrodAll enc Try.prog W 0 (fun _ => true) true Try.f7.params.toList args.toList ds p := hA0
  obtain ⟨rfl, rfl⟩ := trodVars_none hV
  have hlen := trodAll_len _ _ _ _ hA
  obtain ⟨d0, d1, rfl⟩ : ∃ d0 d1, ds = [d0, d1] := by
    rw [Try.params7] at hlen
    exact list2 hlen
  refine (entry H enc W base args [d0, d1] p hval hA).mono fun e W' ⟨he, bel⟩ => ?_
  subst he
  exact ⟨_, rfl, _, _, _, [], _, [], hW', trodAll_mk1 (shut_bool Try.underlying4 _), readback laidOut _ _ _ _ (by rw [Try.params7]; exact of_decide_eq_true (by kernel_rfl)) hA bel, rfl, bel.frame _, fun h => by cases h⟩

theorem over : Rows.playCalmRow.holds Try.pinned (OpenSpec.ofChange Rows.playCalmSpec) :=
  OpenClaim.holds_of_wide 7 Try.f7 rfl rfl rfl rfl rfl rfl rfl ⟨rfl, rfl, rfl, rfl, rfl⟩ rfl rfl rfl rfl rfl (by kernel_rfl) Try.func7 (by kernel_rfl)
    (of_decide_eq_true (by kernel_rfl)) (by unfold Func.isWrapper; first | (rw [if_pos (by decide +kernel)]; kernel_rfl) | (rw [if_neg (by decide +kernel)]; exact ⟨rfl, rfl⟩))
    (fun os started H enc _ => lifted os started H enc)

/-- THE STATEMENT -/
theorem proved : Rows.PlayCalmSaid := over
end PlayCalm
#print axioms PlayCalm.proved
end Go.Proofs.Ytgjkcnfinjenoaa
