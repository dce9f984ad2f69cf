




/- For every game: its plan is accepted for its value, and for no lesser bound; played against any allowed failures it loses no more than this, and against the failures that Worst says just this (valid and small games of at most 5 departures and 3 vehicles, else nothing is said). -/
import Derived.Test.YtgccankekflchaaTM4
import Derived.Test.YtgccankekflchaaLift
namespace Go.Proofs.Ytgccankekflchaa
open Go.ChangeShapes Go.WideShapes Go.ChangeAt Go.RowKit Go.Joins
namespace TopPlan
set_option maxRecDepth 100000 in
set_option maxHeartbeats 8000000 in
theorem all (g : Gm) (sa da : Option Addr) (sc dc : Nat) (F : List Int) (fa : Option Addr) (fc : Nat) (w : World) (hG : GmAt w g sa da) (hB : GmBig g) (hFi : Ints w fa F) (hFl : F.length < 9223372036854775808) :
    Calls Try.prog 3 #[gmV g sa sc da dc, .slice fa F.length fc] w (RetB (.bool true) w) := by
  have hfe := fun (wy : World) (hy : Below w.heap.size w wy) => fewT_any g sa da sc dc wy (hG.later hy) hB
  have hpl := fun (h : VG g) (wy : World) (hy : Below w.heap.size w wy) => plan_any g sa da sc dc wy (hG.later hy) (VG_fewT h)
  have hvl := fun (h : VG g) (hs : SmG g) (wy : World) (hy : Below w.heap.size w wy) => (show Calls Try.prog 8 #[gmV g sa sc da dc] wy (RetB (.tuple #[.int .i64 (WG g (beginS g)), .int .i64 0]) wy) from by have h1 := value_any g sa da sc dc wy (hG.later hy) (VG_fewT h); rwa [valG_ok h hs] at h1)
  have hac := fun (h : VG g) (l : List PA) (hl : PlanG g l) (a : Option Addr) (c : Nat) (b : Int) (wy : World) (hy : Below w.heap.size w wy) (hL : LaP wy a l) => acceptL g sa da sc dc l a c b wy (hG.later hy) h hL hl.p hl.n
  have hlo := fun (h : VG g) (l : List PA) (hl : PlanG g l) (a : Option Addr) (c : Nat) (E : List Int) (ea : Option Addr) (ec : Nat) (wy : World) (hy : Below w.heap.size w wy) (hL : LaP wy a l) (hE : Ints wy ea E) (hEl : E.length ≤ 1000) => lost_any g sa da sc dc l a c E ea ec wy (hG.later hy) (VG_fewT h) hL hl.i (by have := hl.n; omega) hE hEl
  have hwo := fun (h : VG g) (l : List PA) (hl : PlanG g l) (a : Option Addr) (c : Nat) (wy : World) (hy : Below w.heap.size w wy) (hL : LaP wy a l) => worst_any g sa da sc dc l a c wy (hG.later hy) (VG_fewT h) hL hl.i (by have := hl.n; omega)
  simp only [lostV_eq] at hlo
  have HFE := Lib.hid hfe
  have HPL := Lib.hid hpl
  have HVL := Lib.hid hvl
  have HAC := Lib.hid hac
  have HLO := Lib.hid hlo
  have HWO := Lib.hid hwo
  have HFI := Lib.hid hFi
  clear hG hB hFi hfe hpl hvl hac hlo hwo
  go_enter Try.func3, Try.ntmps3
  go_wp2_with fail
  refine calls_named ?_
  intro w0 hw0
  obtain ⟨hbx, -, hx, -⟩ := alloc1 w [.slice sa g.starts.length sc, .slice da g.deps.length dc, .int .i64 g.budget] 25 w0 hw0
  have HX := Lib.hid hx
  have HBX := Lib.hid hbx
  clear hw0 hx hbx
  refine Calls.mono (headT_any w0) ?_
  rintro e w1 ⟨rfl, hb1⟩
  have HB1 := Lib.hid (HBX.out.trans (hb1.mono HBX.out.size))
  have hx1 := HX.out.later hb1
  have HX1 := Lib.hid hx1
  have c0 := (hx1 0 _ rfl).1
  have c1 := (hx1 1 _ rfl).1
  have c2 := (hx1 2 _ rfl).1
  clear hb1 hx1
  go_wp2_with fail
  refine Calls.mono (HFE.out w1 HB1.out) ?_
  rintro e w2 ⟨hb2, hcase⟩
  have HB2 := Lib.hid (HB1.out.trans (hb2.mono HB1.out.size))
  have hx2 := HX1.out.later hb2
  have HX2 := Lib.hid hx2
  clear c0 c1 c2
  have c0 := (hx2 0 _ rfl).1
  have c1 := (hx2 1 _ rfl).1
  have c2 := (hx2 2 _ rfl).1
  clear hb2 hx2
  rcases hcase with rfl | ⟨rfl, hv, hs, h5, h3⟩
  · go_wp2_with fail
    go_ret
    exact retB rfl HB2.out
  have HV := Lib.hid hv
  have HSM := Lib.hid hs
  have H53 := Lib.hid (And.intro h5 h3)
  clear hv hs h5 h3
  rcases Nat.lt_or_ge 20 F.length with h20 | h20
  · have e20 : decide ((20 : Int) < (F.length : Int)) = true := decide_eq_true (by omega)
    go_wp2_with fail
    go_ret
    exact retB rfl HB2.out
  have e20 : decide ((20 : Int) < (F.length : Int)) = false := decide_eq_false (by omega)
  go_wp2_with fail
  refine Calls.mono (HPL.out HV.out w2 HB2.out) ?_
  rintro e w3 ⟨hb3, ⟨hnv, rfl⟩ | ⟨-, hns, rfl⟩ | ⟨-, -, a, c, l, rfl, hpo, hat, hps, -, -, -⟩⟩
  · exact absurd HV.out hnv
  · exact absurd HSM.out hns
  have hpg := PlanG.of HV.out H53.out.1 hpo
  obtain ⟨W, hpf⟩ := plans_fact HV.out hpg.r
  have HPG := Lib.hid hpg
  have HPF := Lib.hid hpf
  have HLA := Lib.hid (show LaP w3 a l from ⟨hat, hps⟩)
  have hac1 := plan_acc HV.out hpg.r
  have hac2 := fun b (hb : b < WG g (beginS g)) => plan_nacc HV.out hpg.r hb
  have hval := HVL.out HV.out HSM.out w3 (HB2.out.trans (hb3.mono HB2.out.size))
  obtain ⟨vg, hvg⟩ : ∃ v, v = WG g (beginS g) := ⟨_, rfl⟩
  have hvi := WG_in HV.out (beginS g)
  rw [← hvg] at hval hac1 hvi
  have HVA := Lib.hid hval
  have HA1 := Lib.hid (accB_true hac1)
  have HA2 := Lib.hid (accB_false (hac2 (vg - 1) (by omega)))
  have HVG := Lib.hid hvg
  clear hpg hpf hpo hat hps hac1 hac2 hval hvg
  (have HB3 := Lib.hid (HB2.out.trans (hb3.mono HB2.out.size)); have hx3 := HX2.out.later hb3; have HX3 := Lib.hid hx3; clear c0 c1 c2; have c0 := (hx3 0 _ rfl).1; have c1 := (hx3 1 _ rfl).1; have c2 := (hx3 2 _ rfl).1; clear hb3 hx3)
  go_wp2_with fail
  refine Calls.mono HVA.out ?_
  rintro e w4 ⟨rfl, hb4⟩
  have HLA4 := Lib.hid (HLA.out.later hb4)
  (have HB4 := Lib.hid (HB3.out.trans (hb4.mono HB3.out.size)); have hx4 := HX3.out.later hb4; have HX4 := Lib.hid hx4; clear c0 c1 c2; have c0 := (hx4 0 _ rfl).1; have c1 := (hx4 1 _ rfl).1; have c2 := (hx4 2 _ rfl).1; clear hb4 hx4)
  have hc := HAC.out HV.out l HPG.out a c vg w4 HB4.out HLA4.out
  rw [HA1.out] at hc
  have HC := Lib.hid hc
  clear hc
  go_wp2_with fail
  refine Calls.mono HC.out ?_
  rintro e w5 ⟨rfl, hb5⟩
  have HLA5 := Lib.hid (HLA4.out.later hb5)
  (have HB5 := Lib.hid (HB4.out.trans (hb5.mono HB4.out.size)); have hx5 := HX4.out.later hb5; have HX5 := Lib.hid hx5; clear c0 c1 c2; have c0 := (hx5 0 _ rfl).1; have c1 := (hx5 1 _ rfl).1; have c2 := (hx5 2 _ rfl).1; clear hb5 hx5)
  have hc := HAC.out HV.out l HPG.out a c (vg - 1) w5 HB5.out HLA5.out
  rw [HA2.out] at hc
  have HC5 := Lib.hid hc
  have wv : IntKind.i64.wrap (vg - 1) = vg - 1 := IntWalk.i64_in _ (by omega)
  clear hc
  go_wp2_with fail
  refine Calls.mono HC5.out ?_
  rintro e w6 ⟨rfl, hb6⟩
  have HLA6 := Lib.hid (HLA5.out.later hb6)
  (have HB6 := Lib.hid (HB5.out.trans (hb6.mono HB5.out.size)); have hx6 := HX5.out.later hb6; have HX6 := Lib.hid hx6; clear c0 c1 c2; have c0 := (hx6 0 _ rfl).1; have c1 := (hx6 1 _ rfl).1; have c2 := (hx6 2 _ rfl).1; clear hb6 hx6)
  clear wv
  go_wp2_with fail
  refine Calls.mono (HLO.out HV.out l HPG.out a c F fa fc w6 HB6.out HLA6.out (HFI.out.later HB6.out) (by omega)) ?_
  rintro e w7 ⟨rfl, hb7⟩
  have hfx : ((lostN g (l.map (·.1)) F).2 = 0 ∧ (lostN g (l.map (·.1)) F).1 ≤ vg) ∨ (lostN g (l.map (·.1)) F).2 = 1 := by
    rcases Classical.em (AllowG g F) with hA | hA
    · obtain ⟨x0, h1, _, h3⟩ := HPF.out.yes F hA
      rw [h1]
      exact .inl ⟨rfl, by rw [HVG.out]; exact h3⟩
    · rw [lostN_no fun h => hA h.2]
      exact .inr rfl
  obtain ⟨x, hx⟩ : ∃ x, x = (lostN g (l.map (·.1)) F).1 := ⟨_, rfl⟩
  obtain ⟨f, hf⟩ : ∃ x, x = (lostN g (l.map (·.1)) F).2 := ⟨_, rfl⟩
  rw [← hx, ← hf] at hfx ⊢
  have HFX := Lib.hid hfx
  have HLA7 := Lib.hid (HLA6.out.later hb7)
  clear hx hf hfx
  (have HB7 := Lib.hid (HB6.out.trans (hb7.mono HB6.out.size)); have hx7 := HX6.out.later hb7; have HX7 := Lib.hid hx7; clear c0 c1 c2; have c0 := (hx7 0 _ rfl).1; have c1 := (hx7 1 _ rfl).1; have c2 := (hx7 2 _ rfl).1; clear hb7 hx7)
  go_wp2_with fail
  refine Calls.mono (HWO.out HV.out l HPG.out a c w7 HB7.out HLA7.out) ?_
  rintro e w8 ⟨b, d, rfl, hin, hb8⟩
  have HLA8 := Lib.hid (HLA7.out.later hb8)
  have e1 := HPF.out.worst
  rw [← HVG.out] at e1
  rw [e1] at hin ⊢
  simp only at hin ⊢
  have HWI := Lib.hid hin.ints
  have hWl : W.length ≤ 1000 := by rw [HPF.out.len]; have := H53.out.1; omega
  clear hin e1
  (have HB8 := Lib.hid (HB7.out.trans (hb8.mono HB7.out.size)); have hx8 := HX7.out.later hb8; have HX8 := Lib.hid hx8; clear c0 c1 c2; have c0 := (hx8 0 _ rfl).1; have c1 := (hx8 1 _ rfl).1; have c2 := (hx8 2 _ rfl).1; clear hb8 hx8)
  have hc := HLO.out HV.out l HPG.out a c W b d w8 HB8.out HLA8.out HWI.out hWl
  rw [HPF.out.val, ← HVG.out] at hc
  simp only at hc
  have HC8 := Lib.hid hc
  obtain ⟨Wn, hWn⟩ : ∃ n, n = W.length := ⟨_, rfl⟩
  clear hc
  go_wp2_with fail
  refine Calls.mono HC8.out ?_
  rintro e w9 ⟨rfl, hb9⟩
  (have HB9 := Lib.hid (HB8.out.trans (hb9.mono HB8.out.size)); have hx9 := HX8.out.later hb9; have HX9 := Lib.hid hx9; clear c0 c1 c2; have c0 := (hx9 0 _ rfl).1; have c1 := (hx9 1 _ rfl).1; have c2 := (hx9 2 _ rfl).1; clear hb9 hx9)
  rcases HFX.out with ⟨h0, hle⟩ | h1
  · subst h0
    have e2 : decide (x ≤ vg) = true := decide_eq_true hle
    go_wp2_with fail
    go_ret
    exact retB rfl HB9.out
  · subst h1
    go_wp2_with fail
    go_ret
    exact retB rfl HB9.out
theorem walk (w : World) (g : Gm) (sa : Option Addr) (sc : Nat) (da : Option Addr) (dc : Nat) (hG : GmAt w g sa da) (hB : GmBig g)
    (fa : Option Addr) (fc : Nat) (F : List Int) (hFi : Ints w fa F) (hFl : F.length < 9223372036854775808) (_hfc : F.length ≤ fc) : Calls Try.prog 3 #[gmV g sa sc da dc, .slice fa F.length fc] w (RetB (.bool true) w) :=
  all g sa da sc dc F fa fc w hG hB hFi hFl
end TopPlan
namespace TopPlan
set_option maxRecDepth 100000 in
theorem entry (H : Type) (enc : TypeId × Value → H) (W : World) (base : Nat) (args : Array Value) (ds : List (DataW H)) (p : List MemPlace)
    (hval : ∀ (j : Nat) t v, Try.f3.params[j]? = some t → args[j]? = some v → Value.okWide Try.prog W .any base t v)
    (hA : DataW.TrodAll enc Try.prog W 0 (fun _ => true) true Try.f3.params.toList args.toList ds p) :
    Calls Try.prog 3 args W (RetB (.bool true) W) := by
  rw [Try.params3] at hA hval
  obtain ⟨v0, vs0, d0, ds0, p0, q0, hargs, rfl, rfl, h0, r0⟩ := trodAll_cons hA
  obtain ⟨v1, vs1, d1, ds1, p1, q1, rfl, rfl, rfl, h1, r1⟩ := trodAll_cons r0
  obtain ⟨rfl, rfl, rfl⟩ := trodAll_nil r1
  obtain rfl : args = #[v0, v1] := by cases args; simp_all
  obtain ⟨g, ga, gc, gd, ge, rfl, gG, gB⟩ := open_game (hval 0 25 v0 rfl rfl) h0
  obtain ⟨failsa, failsc, fails, rfl, failsI, failsl, failsk⟩ := open_ints_at (hval 1 22 v1 rfl rfl) h1
  exact walk W g ga gc gd ge gG gB failsa failsc fails failsI failsl failsk
end TopPlan
/-! The step from the walk to the row of TopPlan. -/
namespace TopPlan
set_option maxRecDepth 100000 in
theorem lifted (os : Os) (started : os.Started) (H : Type) (enc : TypeId × Value → H) :
    ReturnsInHanded {} Try.checked os 3 .any (Rows.topPlanSpec.pre6 enc Try.prog Try.f3 Rows.topPlanRow.domain false) (Rows.topPlanSpec.post enc Try.prog Try.f3 false true false false) := by
  refine returnsInHanded_of_change (C := Try.checked) own started (by kernel_rfl) Try.func3
    (ChangeSpec.witness6 (enc := enc) (C := Try.checked) false ⟨#[], #[.agg #[.slice none 0 0, .slice none 0 0, .int .i64 0], .slice none 0 0], []⟩ 8 (by kernel_rfl) (by kernel_rfl) (by kernel_rfl) (by kernel_rfl)) ?_
  intro W base args ds gs before hval0 hW hcnd _
  have hval : ∀ (j : Nat) t v, Try.f3.params[j]? = some t → args[j]? = some v → Value.okWide Try.prog W .any base t v := hval0
  have hW' := hW
  obtain ⟨p, q, hA0, hV, rfl, hfz, hnd⟩ := hW
  have hA : DataW.TrodAll enc Try.prog W 0 (fun _ => true) true Try.f3.params.toList args.toList ds p := hA0
  obtain ⟨rfl, rfl⟩ := trodVars_none hV
  have hlen := trodAll_len _ _ _ _ hA
  obtain ⟨d0, d1, rfl⟩ : ∃ d0 d1, ds = [d0, d1] := by
    rw [Try.params3] at hlen
    exact list2 hlen
  refine (entry H enc W base args [d0, d1] p hval hA).mono fun e W' ⟨he, bel⟩ => ?_
  subst he
  exact ⟨_, rfl, _, _, _, [], _, [], hW', trodAll_mk1 (shut_bool Try.underlying4 _), readback laidOut _ _ _ _ (by rw [Try.params3]; exact of_decide_eq_true (by kernel_rfl)) hA bel, rfl, bel.frame _, fun h => by cases h⟩

theorem over : Rows.topPlanRow.holds Try.pinned (OpenSpec.ofChange Rows.topPlanSpec) :=
  OpenClaim.holds_of_wide 3 Try.f3 rfl rfl rfl rfl rfl rfl rfl ⟨rfl, rfl, rfl, rfl, rfl⟩ rfl rfl rfl rfl rfl (by kernel_rfl) Try.func3 (by kernel_rfl)
    (of_decide_eq_true (by kernel_rfl)) (by unfold Func.isWrapper; first | (rw [if_pos (by decide +kernel)]; kernel_rfl) | (rw [if_neg (by decide +kernel)]; exact ⟨rfl, rfl⟩))
    (fun os started H enc _ => lifted os started H enc)

/-- THE STATEMENT -/
theorem proved : Rows.TopPlanSaid := over
end TopPlan
#print axioms TopPlan.proved
end Go.Proofs.Ytgccankekflchaa
