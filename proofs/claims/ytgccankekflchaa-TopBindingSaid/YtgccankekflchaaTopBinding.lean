




/- For every game, plan and bound: a plan that is accepted never gets stuck against allowed failures, and loses no more than the bound, which is at least the value of the game (valid and small games of at most 5 departures and 3 vehicles, at most 300 positions, else nothing is said). -/
import Derived.Test.YtgccankekflchaaTM4
import Derived.Test.YtgccankekflchaaLift
namespace Go.Proofs.Ytgccankekflchaa
open Go.ChangeShapes Go.WideShapes Go.ChangeAt Go.RowKit Go.Joins
namespace TopBinding
set_option maxRecDepth 100000 in
set_option maxHeartbeats 8000000 in
theorem all (g : Gm) (sa da : Option Addr) (sc dc : Nat) (l : List PA) (a : Option Addr) (c : Nat) (bound : Int) (F : List Int) (fa : Option Addr) (fc : Nat) (w : World) (hG : GmAt w g sa da) (hB : GmBig g) (hL : LaP w a l) (hI : InP l) (hp : ∀ p ∈ l.map (·.1), PosIn p) (hll : l.length < 9223372036854775808) (hFi : Ints w fa F) (hFl : F.length < 9223372036854775808) :
    Calls Try.prog 4 #[gmV g sa sc da dc, .slice a l.length c, .int .i64 bound, .slice fa F.length fc] w (RetB (.bool true) w) := by
  have hfe := fun (wy : World) (hy : Below w.heap.size w wy) => fewT_any g sa da sc dc wy (hG.later hy) hB
  have hvl := fun (h : VG g) (hs : SmG g) (wy : World) (hy : Below w.heap.size w wy) => (show Calls Try.prog 8 #[gmV g sa sc da dc] wy (RetB (.tuple #[.int .i64 (WG g (beginS g)), .int .i64 0]) wy) from by have h1 := value_any g sa da sc dc wy (hG.later hy) (VG_fewT h); rwa [valG_ok h hs] at h1)
  have hac := fun (h : VG g) (h300 : l.length ≤ 300) (wy : World) (hy : Below w.heap.size w wy) => acceptL g sa da sc dc l a c bound wy (hG.later hy) h (hL.later hy) hp (by omega)
  have hlo := fun (h : VG g) (h300 : l.length ≤ 300) (h20 : F.length ≤ 20) (wy : World) (hy : Below w.heap.size w wy) => lost_any g sa da sc dc l a c F fa fc wy (hG.later hy) (VG_fewT h) (hL.later hy) hI (by omega) (hFi.later hy) (by omega)
  have hwo := fun (h : VG g) (h300 : l.length ≤ 300) (wy : World) (hy : Below w.heap.size w wy) => worst_any g sa da sc dc l a c wy (hG.later hy) (VG_fewT h) (hL.later hy) hI (by omega)
  simp only [lostV_eq] at hlo
  have HFE := Lib.hid hfe
  have HVL := Lib.hid hvl
  have HAC := Lib.hid hac
  have HLO := Lib.hid hlo
  have HWO := Lib.hid hwo
  clear hG hB hL hI hp hFi hfe hvl hac hlo hwo
  go_enter Try.func4, Try.ntmps4
  go_wp2_with fail
  refine calls_named ?_
  intro w0 hw0
  obtain ⟨hbx, -, hx, -⟩ := alloc1 w [.slice sa g.starts.length sc, .slice da g.deps.length dc, .int .i64 g.budget] 25 w0 hw0
  have HX := Lib.hid hx
  have HBX := Lib.hid hbx
  clear hw0 hx hbx
  refine Calls.mono (headT_any w0) ?_
  rintro e w1 ⟨rfl, hb1⟩
  have HB1 := Lib.hid (HBX.out.trans (hb1.mono HBX.out.size))
  have hx1 := HX.out.later hb1
  have HX1 := Lib.hid hx1
  have c0 := (hx1 0 _ rfl).1
  have c1 := (hx1 1 _ rfl).1
  have c2 := (hx1 2 _ rfl).1
  clear hb1 hx1
  go_wp2_with fail
  refine Calls.mono (HFE.out w1 HB1.out) ?_
  rintro e w2 ⟨hb2, hcase⟩
  have HB2 := Lib.hid (HB1.out.trans (hb2.mono HB1.out.size))
  have hx2 := HX1.out.later hb2
  have HX2 := Lib.hid hx2
  clear c0 c1 c2
  have c0 := (hx2 0 _ rfl).1
  have c1 := (hx2 1 _ rfl).1
  have c2 := (hx2 2 _ rfl).1
  clear hb2 hx2
  rcases hcase with rfl | ⟨rfl, hv, hs, h5, h3⟩
  · go_wp2_with fail
    go_ret
    exact retB rfl HB2.out
  have HV := Lib.hid hv
  have HSM := Lib.hid hs
  have H53 := Lib.hid (And.intro h5 h3)
  clear hv hs h5 h3
  rcases Nat.lt_or_ge 20 F.length with h20 | h20
  · have e20 : decide ((20 : Int) < (F.length : Int)) = true := decide_eq_true (by omega)
    go_wp2_with fail
    go_ret
    exact retB rfl HB2.out
  have e20 : decide ((20 : Int) < (F.length : Int)) = false := decide_eq_false (by omega)
  rcases Nat.lt_or_ge 300 l.length with h30 | h30
  · have e30 : decide ((300 : Int) < (l.length : Int)) = true := decide_eq_true (by omega)
    go_wp2_with fail
    go_ret
    exact retB rfl HB2.out
  have e30 : decide ((300 : Int) < (l.length : Int)) = false := decide_eq_false (by omega)
  go_wp2_with fail
  refine Calls.mono (HAC.out HV.out h30 w2 HB2.out) ?_
  rintro e w3 ⟨rfl, hb3⟩
  (have HB3 := Lib.hid (HB2.out.trans (hb3.mono HB2.out.size)); have hx3 := HX2.out.later hb3; have HX3 := Lib.hid hx3; clear c0 c1 c2; have c0 := (hx3 0 _ rfl).1; have c1 := (hx3 1 _ rfl).1; have c2 := (hx3 2 _ rfl).1; clear hb3 hx3)
  rcases Classical.em (¬ Acc g (l.map (·.1)) bound) with hA | hA
  · rw [accB_false hA]
    clear hA
    go_wp2_with fail
    go_ret
    exact retB rfl HB3.out
  replace hA := Classical.not_not.1 hA
  rw [accB_true hA]
  have hbi := acc_binds hA
  have hb1 := hbi.lost F
  have hb2 := hbi.worst
  have hvb := hbi.val
  obtain ⟨vg, hvg⟩ : ∃ v, v = WG g (beginS g) := ⟨_, rfl⟩
  have hval := fun wy hy => HVL.out HV.out HSM.out wy hy
  simp only [← hvg] at hval hvb
  have HVA := Lib.hid hval
  have HBW := Lib.hid hb2
  have HBL := Lib.hid hb1
  clear hA hbi hb1 hb2 hvg hval
  go_wp2_with fail
  refine Calls.mono (HVA.out w3 HB3.out) ?_
  rintro e w4 ⟨rfl, hb4⟩
  (have HB4 := Lib.hid (HB3.out.trans (hb4.mono HB3.out.size)); have hx4 := HX3.out.later hb4; have HX4 := Lib.hid hx4; clear c0 c1 c2; have c0 := (hx4 0 _ rfl).1; have c1 := (hx4 1 _ rfl).1; have c2 := (hx4 2 _ rfl).1; clear hb4 hx4)
  go_wp2_with fail
  refine Calls.mono (HLO.out HV.out h30 h20 w4 HB4.out) ?_
  rintro e w5 ⟨rfl, hb5⟩
  have hfx := HBL.out
  obtain ⟨x, hx⟩ : ∃ x, x = (lostN g (l.map (·.1)) F).1 := ⟨_, rfl⟩
  obtain ⟨f, hf⟩ : ∃ x, x = (lostN g (l.map (·.1)) F).2 := ⟨_, rfl⟩
  rw [← hx, ← hf] at hfx ⊢
  have HFX := Lib.hid hfx
  clear hx hf hfx
  (have HB5 := Lib.hid (HB4.out.trans (hb5.mono HB4.out.size)); have hx5 := HX4.out.later hb5; have HX5 := Lib.hid hx5; clear c0 c1 c2; have c0 := (hx5 0 _ rfl).1; have c1 := (hx5 1 _ rfl).1; have c2 := (hx5 2 _ rfl).1; clear hb5 hx5)
  go_wp2_with fail
  refine Calls.mono (HWO.out HV.out h30 w5 HB5.out) ?_
  rintro e w6 ⟨b, d, rfl, -, hb6⟩
  have hw := HBW.out
  obtain ⟨V, hV⟩ : ∃ V, V = worstV g (l.map (·.1)) := ⟨_, rfl⟩
  rw [← hV] at hw ⊢
  obtain ⟨W, m, e0⟩ := V
  simp only at hw ⊢
  obtain ⟨hw1, hw2⟩ := hw
  subst hw1
  obtain ⟨Wn, hWn⟩ : ∃ n, n = W.length := ⟨_, rfl⟩
  rw [← hWn]
  clear hV hWn
  (have HB6 := Lib.hid (HB5.out.trans (hb6.mono HB5.out.size)); have hx6 := HX5.out.later hb6; have HX6 := Lib.hid hx6; clear c0 c1 c2; have c0 := (hx6 0 _ rfl).1; have c1 := (hx6 1 _ rfl).1; have c2 := (hx6 2 _ rfl).1; clear hb6 hx6)
  have e1 : decide (vg ≤ bound) = true := decide_eq_true hvb
  have e2 : decide (m ≤ bound) = true := decide_eq_true hw2
  rcases HFX.out with h1 | ⟨h0, hle⟩
  · subst h1
    go_wp2_with fail
    go_ret
    exact retB rfl HB6.out
  · subst h0
    have e3 : decide (x ≤ bound) = true := decide_eq_true hle
    go_wp2_with fail
    go_ret
    exact retB rfl HB6.out
theorem walk (w : World) (g : Gm) (sa : Option Addr) (sc : Nat) (da : Option Addr) (dc : Nat) (hG : GmAt w g sa da) (hB : GmBig g) (l : List PA) (a : Option Addr) (c : Nat) (hL : LaP w a l) (hI : InP l) (hll : l.length < 9223372036854775808) (hp : ∀ p ∈ l.map (·.1), PosIn p) (bound : Int) (_hbo : inI bound)
    (fa : Option Addr) (fc : Nat) (F : List Int) (hFi : Ints w fa F) (hFl : F.length < 9223372036854775808) (_hfc : F.length ≤ fc) : Calls Try.prog 4 #[gmV g sa sc da dc, .slice a l.length c, .int .i64 bound, .slice fa F.length fc] w (RetB (.bool true) w) :=
  all g sa da sc dc l a c bound F fa fc w hG hB hL hI hp hll hFi hFl
end TopBinding
namespace TopBinding
set_option maxRecDepth 100000 in
theorem entry (H : Type) (enc : TypeId × Value → H) (W : World) (base : Nat) (args : Array Value) (ds : List (DataW H)) (p : List MemPlace)
    (hval : ∀ (j : Nat) t v, Try.f4.params[j]? = some t → args[j]? = some v → Value.okWide Try.prog W .any base t v)
    (hA : DataW.TrodAll enc Try.prog W 0 (fun _ => true) true Try.f4.params.toList args.toList ds p) :
    Calls Try.prog 4 args W (RetB (.bool true) W) := by
  rw [Try.params4] at hA hval
  obtain ⟨v0, vs0, d0, ds0, p0, q0, hargs, rfl, rfl, h0, r0⟩ := trodAll_cons hA
  obtain ⟨v1, vs1, d1, ds1, p1, q1, rfl, rfl, rfl, h1, r1⟩ := trodAll_cons r0
  obtain ⟨v2, vs2, d2, ds2, p2, q2, rfl, rfl, rfl, h2, r2⟩ := trodAll_cons r1
  obtain ⟨v3, vs3, d3, ds3, p3, q3, rfl, rfl, rfl, h3, r3⟩ := trodAll_cons r2
  obtain ⟨rfl, rfl, rfl⟩ := trodAll_nil r3
  obtain rfl : args = #[v0, v1, v2, v3] := by cases args; simp_all
  obtain ⟨g, ga, gc, gd, ge, rfl, gG, gB⟩ := open_game (hval 0 25 v0 rfl rfl) h0
  obtain ⟨plan, plana, planc, rfl, planL, planI, plann, planP⟩ := open_planp (hval 1 28 v1 rfl rfl) h1
  obtain ⟨bound, rfl, boundo⟩ := open_i64 (hval 2 3 v2 rfl rfl) h2
  obtain ⟨failsa, failsc, fails, rfl, failsI, failsl, failsk⟩ := open_ints_at (hval 3 22 v3 rfl rfl) h3
  exact walk W g ga gc gd ge gG gB plan plana planc planL planI plann planP bound boundo failsa failsc fails failsI failsl failsk
end TopBinding
/-! The step from the walk to the row of TopBinding. -/
namespace TopBinding
set_option maxRecDepth 100000 in
theorem lifted (os : Os) (started : os.Started) (H : Type) (enc : TypeId × Value → H) :
    ReturnsInHanded {} Try.checked os 4 .any (Rows.topBindingSpec.pre6 enc Try.prog Try.f4 Rows.topBindingRow.domain false) (Rows.topBindingSpec.post enc Try.prog Try.f4 false true false false) := by
  refine returnsInHanded_of_change (C := Try.checked) own started (by kernel_rfl) Try.func4
    (ChangeSpec.witness6 (enc := enc) (C := Try.checked) false ⟨#[], #[.agg #[.slice none 0 0, .slice none 0 0, .int .i64 0], .slice none 0 0, .int .i64 0, .slice none 0 0], []⟩ 8 (by kernel_rfl) (by kernel_rfl) (by kernel_rfl) (by kernel_rfl)) ?_
  intro W base args ds gs before hval0 hW hcnd _
  have hval : ∀ (j : Nat) t v, Try.f4.params[j]? = some t → args[j]? = some v → Value.okWide Try.prog W .any base t v := hval0
  have hW' := hW
  obtain ⟨p, q, hA0, hV, rfl, hfz, hnd⟩ := hW
  have hA : DataW.TrodAll enc Try.prog W 0 (fun _ => true) true Try.f4.params.toList args.toList ds p := hA0
  obtain ⟨rfl, rfl⟩ := trodVars_none hV
  have hlen := trodAll_len _ _ _ _ hA
  obtain ⟨d0, d1, d2, d3, rfl⟩ : ∃ d0 d1 d2 d3, ds = [d0, d1, d2, d3] := by
    rw [Try.params4] at hlen
    exact list4 hlen
  refine (entry H enc W base args [d0, d1, d2, d3] p hval hA).mono fun e W' ⟨he, bel⟩ => ?_
  subst he
  exact ⟨_, rfl, _, _, _, [], _, [], hW', trodAll_mk1 (shut_bool Try.underlying4 _), readback laidOut _ _ _ _ (by rw [Try.params4]; exact of_decide_eq_true (by kernel_rfl)) hA bel, rfl, bel.frame _, fun h => by cases h⟩

theorem over : Rows.topBindingRow.holds Try.pinned (OpenSpec.ofChange Rows.topBindingSpec) :=
  OpenClaim.holds_of_wide 4 Try.f4 rfl rfl rfl rfl rfl rfl rfl ⟨rfl, rfl, rfl, rfl, rfl⟩ rfl rfl rfl rfl rfl (by kernel_rfl) Try.func4 (by kernel_rfl)
    (of_decide_eq_true (by kernel_rfl)) (by unfold Func.isWrapper; first | (rw [if_pos (by decide +kernel)]; kernel_rfl) | (rw [if_neg (by decide +kernel)]; exact ⟨rfl, rfl⟩))
    (fun os started H enc _ => lifted os started H enc)

/-- THE STATEMENT -/
theorem proved : Rows.TopBindingSaid := over
end TopBinding
#print axioms TopBinding.proved
end Go.Proofs.Ytgccankekflchaa
