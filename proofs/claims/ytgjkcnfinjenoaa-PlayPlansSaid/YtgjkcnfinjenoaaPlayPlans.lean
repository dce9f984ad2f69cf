



/- For every small game and failures: the plan of game gets stuck against no allowed failures, loses at most the game's value against them, and just this against the failures that Worst says; failures that are not allowed are refused (few departures and vehicles, else nothing is said). -/
import Derived.Test.YtgjkcnfinjenoaaPM4
import Derived.Test.YtgjkcnfinjenoaaLift
namespace Go.Proofs.Ytgjkcnfinjenoaa
open Go.ChangeShapes Go.WideShapes Go.ChangeAt Go.RowKit Go.Joins
namespace PlayPlans
theorem dom_inS {g : Gm} (hv : VG g) {s : St} (h : Dom g s) : InS s := by
  have hb := h.b0
  have h2 := hv.2.2.2.1
  have h5 := h.b1
  have hs := h.sts hv
  refine ⟨⟨?_, ?_⟩, ⟨by omega, by omega⟩, fun i => ⟨?_, ?_⟩⟩
  · have := hs.1.1; omega
  · have := hs.1.2; omega
  · have := (hs.2 i).1; omega
  · have := (hs.2 i).2; omega
theorem NF_mono {a : Nat} : ∀ {b : Nat}, a ≤ b → NF a ≤ NF b
  | 0, h => by obtain rfl : a = 0 := by omega
               exact Nat.le_refl _
  | b + 1, h => by
    by_cases e : a = b + 1
    · subst e; exact Nat.le_refl _
    · have := NF_mono (a := a) (b := b) (by omega)
      show NF a ≤ 7 * (1 + NF b)
      omega
theorem plan_few {g : Gm} (hv : VG g) (h5 : g.deps.length ≤ 5) {l : List PA} (hp : PlanOf g (l.map (·.1))) : l.length ≤ 20000 := by
  have h1 := followL_len hv g.deps.length (beginS g) [] (Dom.begin hv) (by show (0 : Int) + _ ≤ _; omega)
  have h2 := NF_mono h5
  have h3 : NF 5 ≤ 20000 := by decide
  have h4 := hp.p.length_eq
  simp only [List.length_map, List.length_nil] at h1 h4
  omega
set_option maxRecDepth 100000 in
set_option maxHeartbeats 8000000 in
theorem all (g : Gm) (sa da : Option Addr) (sc dc : Nat) (F : List Int) (fa : Option Addr) (fc : Nat) (w : World) (hG : GmAt w g sa da) (hB : GmBig g) (hFi : Ints w fa F) (hFl : F.length < 9223372036854775808) (hfc : F.length ≤ fc) :
    Calls Try.prog 8 #[gmV g sa sc da dc, .slice fa F.length fc] w (RetB (.bool true) w) := by
  have hwo := fun (h : FewP g []) (l : List PA) (a : Option Addr) (c : Nat) (wy : World) (hy : Below w.heap.size w wy) (hL : LaP wy a l) (hI : InP l) (hll : l.length ≤ 20000) => worst_any g sa da sc dc l a c wy (hG.later hy) h.few hL hI (by omega)
  have hlo := fun (h : FewP g []) (h20 : F.length ≤ 20) (l : List PA) (a : Option Addr) (c : Nat) (wy : World) (hy : Below w.heap.size w wy) (hL : LaP wy a l) (hI : InP l) (hll : l.length ≤ 20000) => lost_any g sa da sc dc l a c F fa fc wy (hG.later hy) h.few hL hI (by omega) (hFi.later hy) (by omega)
  simp only [lostV_eq] at hlo
  have hal := fun (h : VG g) (h20 : F.length ≤ 20) (wy : World) (hy : Below w.heap.size w wy) => allowed_any g sa da sc dc F fa fc wy (hG.later hy) h.1 (hFi.later hy) (by omega) hfc
  have hpl := fun (h : FewP g []) (wy : World) (hy : Below w.heap.size w wy) => plan_any g sa da sc dc wy (hG.later hy) h.few
  have hvl := fun (h : FewP g []) (wy : World) (hy : Below w.heap.size w wy) => value_any g sa da sc dc wy (hG.later hy) h.few
  have HWO := Lib.hid hwo
  have HLO := Lib.hid hlo
  have HAL := Lib.hid hal
  have HPL := Lib.hid hpl
  have HVL := Lib.hid hvl
  have hfe := fun (wy : World) (hy : Below w.heap.size w wy) => fewp_any g sa da sc dc [] none 0 wy (hG.later hy) ⟨El.At.nil, fun _ h => by cases h⟩ (by decide) hB.d
  simp only [List.length_nil] at hfe
  have HFE := Lib.hid hfe
  clear hG hB hFi hfc hfe hwo hlo hal hpl hvl
  go_enter Try.func8, Try.ntmps8
  go_wp2_with fail
  refine calls_named ?_
  intro w0 hw0
  obtain ⟨hbx, -, hx, -⟩ := alloc1 w [.slice sa g.starts.length sc, .slice da g.deps.length dc, .int .i64 g.budget] 25 w0 hw0
  have HX := Lib.hid hx
  have HBX := Lib.hid hbx
  clear hw0 hx hbx
  refine Calls.mono (headp_any w0) ?_
  rintro e w1 ⟨rfl, hb1⟩
  have HB1 := Lib.hid (HBX.out.trans (hb1.mono HBX.out.size))
  have hx1 := HX.out.later hb1
  have HX1 := Lib.hid hx1
  have c0 := (hx1 0 _ rfl).1
  have c1 := (hx1 1 _ rfl).1
  have c2 := (hx1 2 _ rfl).1
  clear hb1 hx1
  go_wp2_with fail
  refine Calls.mono (HFE.out w1 HB1.out) ?_
  rintro e w2 ⟨hb2, hcase⟩
  have HB2 := Lib.hid (HB1.out.trans (hb2.mono HB1.out.size))
  have hx2 := HX1.out.later hb2
  have HX2 := Lib.hid hx2
  clear c0 c1 c2
  have c0 := (hx2 0 _ rfl).1
  have c1 := (hx2 1 _ rfl).1
  have c2 := (hx2 2 _ rfl).1
  clear hb2 hx2
  rcases hcase with rfl | ⟨rfl, hfew⟩
  · go_wp2_with fail
    go_ret
    exact retB rfl HB2.out
  have HFP := Lib.hid hfew
  clear hfew
  rcases Nat.lt_or_ge 20 F.length with h20 | h20
  · have e20 : decide ((20 : Int) < (F.length : Int)) = true := decide_eq_true (by omega)
    go_wp2_with fail
    go_ret
    exact retB rfl HB2.out
  have e20 : decide ((20 : Int) < (F.length : Int)) = false := decide_eq_false (by omega)
  go_wp2_with fail
  refine Calls.mono (HPL.out HFP.out w2 HB2.out) ?_
  rintro e w3 ⟨hb3, ⟨hnv, rfl⟩ | ⟨hv, hns, rfl⟩ | ⟨hv, hs, a, c, l, rfl, hpo, hat, hps, _, _, _⟩⟩
  · have hval := HVL.out HFP.out w3 (HB2.out.trans (hb3.mono HB2.out.size))
    rw [valG_bad hnv] at hval
    have HVA := Lib.hid hval
    clear hval hnv
    (have HB3 := Lib.hid (HB2.out.trans (hb3.mono HB2.out.size)); have hx3 := HX2.out.later hb3; have HX3 := Lib.hid hx3; clear c0 c1 c2; have c0 := (hx3 0 _ rfl).1; have c1 := (hx3 1 _ rfl).1; have c2 := (hx3 2 _ rfl).1; clear hb3 hx3)
    go_wp2_with fail
    refine Calls.mono HVA.out ?_
    rintro e w4 ⟨rfl, hb4⟩
    (have HB4 := Lib.hid (HB3.out.trans (hb4.mono HB3.out.size)); have hx4 := HX3.out.later hb4; have HX4 := Lib.hid hx4; clear c0 c1 c2; have c0 := (hx4 0 _ rfl).1; have c1 := (hx4 1 _ rfl).1; have c2 := (hx4 2 _ rfl).1; clear hb4 hx4)
    go_wp2_with fail
    go_ret
    exact retB rfl HB4.out
  · have hval := HVL.out HFP.out w3 (HB2.out.trans (hb3.mono HB2.out.size))
    rw [valG_big hv hns] at hval
    have HVA := Lib.hid hval
    clear hval hv hns
    (have HB3 := Lib.hid (HB2.out.trans (hb3.mono HB2.out.size)); have hx3 := HX2.out.later hb3; have HX3 := Lib.hid hx3; clear c0 c1 c2; have c0 := (hx3 0 _ rfl).1; have c1 := (hx3 1 _ rfl).1; have c2 := (hx3 2 _ rfl).1; clear hb3 hx3)
    go_wp2_with fail
    refine Calls.mono HVA.out ?_
    rintro e w4 ⟨rfl, hb4⟩
    (have HB4 := Lib.hid (HB3.out.trans (hb4.mono HB3.out.size)); have hx4 := HX3.out.later hb4; have HX4 := Lib.hid hx4; clear c0 c1 c2; have c0 := (hx4 0 _ rfl).1; have c1 := (hx4 1 _ rfl).1; have c2 := (hx4 2 _ rfl).1; clear hb4 hx4)
    go_wp2_with fail
    go_ret
    exact retB rfl HB4.out
  · have hval := HVL.out HFP.out w3 (HB2.out.trans (hb3.mono HB2.out.size))
    rw [valG_ok hv hs] at hval
    have hpr := hpo.rows hv
    obtain ⟨W, hpf⟩ := plans_fact hv hpr
    have hll := plan_few hv HFP.out.d hpo
    have HVA := Lib.hid hval
    have HPF := Lib.hid hpf
    have HLL := Lib.hid hll
    have HV := Lib.hid hv
    have HLA := Lib.hid (show LaP w3 a l from ⟨hat, hps⟩)
    have HIP := Lib.hid (show InP l from fun x hx _ => dom_inS hv (hpr.dom x hx).1)
    obtain ⟨vg, hvg⟩ : ∃ v, v = WG g (beginS g) := ⟨_, rfl⟩
    rw [← hvg] at HVA
    have HVG := Lib.hid hvg
    have HW0 := Lib.hid (show 0 ≤ vg from by rw [hvg]; exact (WG_in hv _).1)
    clear hval hv hs hpr hpf hll hpo hat hps hvg
    (have HB3 := Lib.hid (HB2.out.trans (hb3.mono HB2.out.size)); have hx3 := HX2.out.later hb3; have HX3 := Lib.hid hx3; clear c0 c1 c2; have c0 := (hx3 0 _ rfl).1; have c1 := (hx3 1 _ rfl).1; have c2 := (hx3 2 _ rfl).1; clear hb3 hx3)
    go_wp2_with fail
    refine Calls.mono HVA.out ?_
    rintro e w4 ⟨rfl, hb4⟩
    have HLA4 := Lib.hid (HLA.out.later hb4)
    (have HB4 := Lib.hid (HB3.out.trans (hb4.mono HB3.out.size)); have hx4 := HX3.out.later hb4; have HX4 := Lib.hid hx4; clear c0 c1 c2; have c0 := (hx4 0 _ rfl).1; have c1 := (hx4 1 _ rfl).1; have c2 := (hx4 2 _ rfl).1; clear hb4 hx4)
    go_wp2_with fail
    refine Calls.mono (HWO.out HFP.out l a c w4 HB4.out HLA4.out HIP.out HLL.out) ?_
    rintro e w5 ⟨b, d, rfl, hin, hb5⟩
    have HLA5 := Lib.hid (HLA4.out.later hb5)
    have e1 := HPF.out.worst
    have e2 := HPF.out.len
    rw [← HVG.out] at e1
    rw [e1]
    simp only
    rw [e2]
    clear hin e1 e2
    (have HB5 := Lib.hid (HB4.out.trans (hb5.mono HB4.out.size)); have hx5 := HX4.out.later hb5; have HX5 := Lib.hid hx5; clear c0 c1 c2; have c0 := (hx5 0 _ rfl).1; have c1 := (hx5 1 _ rfl).1; have c2 := (hx5 2 _ rfl).1; clear hb5 hx5)
    go_wp2_with fail
    refine Calls.mono (HLO.out HFP.out h20 l a c w5 HB5.out HLA5.out HIP.out HLL.out) ?_
    rintro e w6 ⟨rfl, hb6⟩
    obtain ⟨x, hx⟩ : ∃ x, x = (lostN g (l.map (·.1)) F).1 := ⟨_, rfl⟩
    obtain ⟨f, hf⟩ : ∃ x, x = (lostN g (l.map (·.1)) F).2 := ⟨_, rfl⟩
    rw [← hx, ← hf]
    have HXF := Lib.hid (And.intro hx hf)
    clear hx hf
    (have HB6 := Lib.hid (HB5.out.trans (hb6.mono HB5.out.size)); have hx6 := HX5.out.later hb6; have HX6 := Lib.hid hx6; clear c0 c1 c2; have c0 := (hx6 0 _ rfl).1; have c1 := (hx6 1 _ rfl).1; have c2 := (hx6 2 _ rfl).1; clear hb6 hx6)
    go_wp2_with fail
    refine Calls.mono (HAL.out HV.out h20 w6 HB6.out) ?_
    rintro e w7 ⟨rfl, hb7⟩
    (have HB7 := Lib.hid (HB6.out.trans (hb7.mono HB6.out.size)); have hx7 := HX6.out.later hb7; have HX7 := Lib.hid hx7; clear c0 c1 c2; have c0 := (hx7 0 _ rfl).1; have c1 := (hx7 1 _ rfl).1; have c2 := (hx7 2 _ rfl).1; clear hb7 hx7)
    rcases Classical.em (AllowG g F) with hA | hA
    · rw [allowB_true hA]
      obtain ⟨x0, h1, h2, h3⟩ := HPF.out.yes F hA
      have hx0 := HXF.out.1
      have hf0 := HXF.out.2
      rw [h1] at hx0 hf0
      simp only at hx0 hf0
      subst hx0 hf0
      rw [← HVG.out] at h3
      have e1 : decide (x ≤ vg) = true := decide_eq_true h3
      have e2 : decide ((0 : Int) ≤ x) = true := decide_eq_true h2
      clear hA h1
      go_wp2_with fail
      go_ret
      exact retB rfl HB7.out
    · rw [allowB_false hA]
      have hlx := lostN_no (plan := l.map (·.1)) (F := F) (g := g) fun h => hA h.2
      have hx0 := HXF.out.1
      have hf0 := HXF.out.2
      rw [hlx] at hx0 hf0
      simp only at hx0 hf0
      subst hx0 hf0
      clear hA hlx
      go_wp2_with fail
      go_ret
      exact retB rfl HB7.out
theorem walk (w : World) (g : Gm) (sa : Option Addr) (sc : Nat) (da : Option Addr) (dc : Nat) (hG : GmAt w g sa da) (hB : GmBig g)
    (fa : Option Addr) (fc : Nat) (F : List Int) (hFi : Ints w fa F) (hFl : F.length < 9223372036854775808) (hfc : F.length ≤ fc) : Calls Try.prog 8 #[gmV g sa sc da dc, .slice fa F.length fc] w (RetB (.bool true) w) :=
  all g sa da sc dc F fa fc w hG hB hFi hFl hfc
end PlayPlans
namespace PlayPlans
set_option maxRecDepth 100000 in
theorem entry (H : Type) (enc : TypeId × Value → H) (W : World) (base : Nat) (args : Array Value) (ds : List (DataW H)) (p : List MemPlace)
    (hval : ∀ (j : Nat) t v, Try.f8.params[j]? = some t → args[j]? = some v → Value.okWide Try.prog W .any base t v)
    (hA : DataW.TrodAll enc Try.prog W 0 (fun _ => true) true Try.f8.params.toList args.toList ds p) :
    Calls Try.prog 8 args W (RetB (.bool true) W) := by
  rw [Try.params8] at hA hval
  obtain ⟨v0, vs0, d0, ds0, p0, q0, hargs, rfl, rfl, h0, r0⟩ := trodAll_cons hA
  obtain ⟨v1, vs1, d1, ds1, p1, q1, rfl, rfl, rfl, h1, r1⟩ := trodAll_cons r0
  obtain ⟨rfl, rfl, rfl⟩ := trodAll_nil r1
  obtain rfl : args = #[v0, v1] := by cases args; simp_all
  obtain ⟨g, ga, gc, gd, ge, rfl, gG, gB⟩ := open_game (hval 0 25 v0 rfl rfl) h0
  obtain ⟨failsa, failsc, fails, rfl, failsI, failsl, failsk⟩ := open_ints_at (hval 1 22 v1 rfl rfl) h1
  exact walk W g ga gc gd ge gG gB failsa failsc fails failsI failsl failsk
end PlayPlans
/-! The step from the walk to the row of PlayPlans. -/
namespace PlayPlans
set_option maxRecDepth 100000 in
theorem lifted (os : Os) (started : os.Started) (H : Type) (enc : TypeId × Value → H) :
    ReturnsInHanded {} Try.checked os 8 .any (Rows.playPlansSpec.pre6 enc Try.prog Try.f8 Rows.playPlansRow.domain false) (Rows.playPlansSpec.post enc Try.prog Try.f8 false true false false) := by
  refine returnsInHanded_of_change (C := Try.checked) own started (by kernel_rfl) Try.func8
    (ChangeSpec.witness6 (enc := enc) (C := Try.checked) false ⟨#[], #[.agg #[.slice none 0 0, .slice none 0 0, .int .i64 0], .slice none 0 0], []⟩ 8 (by kernel_rfl) (by kernel_rfl) (by kernel_rfl) (by kernel_rfl)) ?_
  intro W base args ds gs before hval0 hW hcnd _
  have hval : ∀ (j : Nat) t v, Try.f8.params[j]? = some t → args[j]? = some v → Value.okWide Try.prog W .any base t v := hval0
  have hW' := hW
  obtain ⟨p, q, hA0, hV, rfl, hfz, hnd⟩ := hW
  have hA : DataW.TrodAll enc Try.prog W 0 (fun _ => true) true Try.f8.params.toList args.toList ds p := hA0
  obtain ⟨rfl, rfl⟩ := trodVars_none hV
  have hlen := trodAll_len _ _ _ _ hA
  obtain ⟨d0, d1, rfl⟩ : ∃ d0 d1, ds = [d0, d1] := by
    rw [Try.params8] at hlen
    exact list2 hlen
  refine (entry H enc W base args [d0, d1] p hval hA).mono fun e W' ⟨he, bel⟩ => ?_
  subst he
  exact ⟨_, rfl, _, _, _, [], _, [], hW', trodAll_mk1 (shut_bool Try.underlying4 _), readback laidOut _ _ _ _ (by rw [Try.params8]; exact of_decide_eq_true (by kernel_rfl)) hA bel, rfl, bel.frame _, fun h => by cases h⟩

theorem over : Rows.playPlansRow.holds Try.pinned (OpenSpec.ofChange Rows.playPlansSpec) :=
  OpenClaim.holds_of_wide 8 Try.f8 rfl rfl rfl rfl rfl rfl rfl ⟨rfl, rfl, rfl, rfl, rfl⟩ rfl rfl rfl rfl rfl (by kernel_rfl) Try.func8 (by kernel_rfl)
    (of_decide_eq_true (by kernel_rfl)) (by unfold Func.isWrapper; first | (rw [if_pos (by decide +kernel)]; kernel_rfl) | (rw [if_neg (by decide +kernel)]; exact ⟨rfl, rfl⟩))
    (fun os started H enc _ => lifted os started H enc)

/-- THE STATEMENT -/
theorem proved : Rows.PlayPlansSaid := over
end PlayPlans
#print axioms PlayPlans.proved
end Go.Proofs.Ytgjkcnfinjenoaa
