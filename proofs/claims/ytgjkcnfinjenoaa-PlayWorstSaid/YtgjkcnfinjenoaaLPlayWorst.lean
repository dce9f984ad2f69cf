



/- For every game, plan and failures: where Worst has no error, Lost of its failures is what it says, allowed failures lose no more, and less if they come before those; where it has one, it is that of an invalid game exactly if the game is invalid (few departures, vehicles and positions, else nothing is said). -/
import Derived.Test.YtgjkcnfinjenoaaPM4
import Derived.Test.YtgjkcnfinjenoaaLift
namespace Go.Proofs.Ytgjkcnfinjenoaa
open Go.ChangeShapes Go.WideShapes Go.ChangeAt Go.RowKit Go.Joins
namespace PlayWorst

set_option maxRecDepth 100000 in
set_option maxHeartbeats 8000000 in
theorem all (g : Gm) (sa da : Option Addr) (sc dc : Nat) (l : List PA) (a : Option Addr) (c : Nat) (F : List Int) (fa : Option Addr) (fc : Nat) (w : World) (hG : GmAt w g sa da) (hB : GmBig g) (hL : LaP w a l) (hI : InP l) (hll : l.length < 9223372036854775808) (hFi : Ints w fa F) (hFl : F.length < 9223372036854775808) (hfc : F.length ≤ fc) : Calls Try.prog 4 #[gmV g sa sc da dc, .slice a l.length c, .slice fa F.length fc] w (RetB (.bool true) w) := by
  have hwo := fun (h : FewP g l) (wy : World) (hy : Below w.heap.size w wy) => worst_any g sa da sc dc l a c wy (hG.later hy) h.few (hL.later hy) hI (by have := h.n; omega)
  have hlo := fun (h : FewP g l) (E : List Int) (ea : Option Addr) (ec : Nat) (wy : World) (hy : Below w.heap.size w wy) (hE : Ints wy ea E) (hEl : E.length ≤ 1000) => lost_any g sa da sc dc l a c E ea ec wy (hG.later hy) h.few (hL.later hy) hI (by have := h.n; omega) hE hEl
  simp only [lostV_eq] at hlo
  have hal := fun (h : VG g) (h20 : F.length ≤ 20) (wy : World) (hy : Below w.heap.size w wy) => allowed_any g sa da sc dc F fa fc wy (hG.later hy) h.1 (hFi.later hy) (by omega) hfc
  have HWO := Lib.hid hwo
  have HLO := Lib.hid hlo
  have HAL := Lib.hid hal
  clear hwo hlo hal
  have hva := fun (h : FewP g l) (wy : World) (hy : Below w.heap.size w wy) => valid_anyG g sa da sc dc wy (hG.later hy) h.few
  have HVA := Lib.hid hva
  clear hva
  have hfe := fun (wy : World) (hy : Below w.heap.size w wy) => fewp_any g sa da sc dc l a c wy (hG.later hy) (hL.later hy) hll hB.d
  have HFE := Lib.hid hfe
  have HG := Lib.hid hG
  have HL := Lib.hid hL
  have HI := Lib.hid hI
  have HFI := Lib.hid hFi
  have HFC := Lib.hid hfc
  clear hG hB hL hI hFi hfc hfe
  go_enter Try.func4, Try.ntmps4
  go_wp2_with fail
  refine calls_named ?_
  intro w0 hw0
  obtain ⟨hbx, _, hx, _⟩ := alloc1 w [.slice sa g.starts.length sc, .slice da g.deps.length dc, .int .i64 g.budget] 25 w0 hw0
  have HX := Lib.hid hx
  have HBX := Lib.hid hbx
  clear hw0 hx hbx
  refine Calls.mono (headp_any w0) ?_
  rintro e w1 ⟨rfl, hb1⟩
  have HB1 := Lib.hid (HBX.out.trans (hb1.mono HBX.out.size))
  have hx1 := HX.out.later hb1
  have HX1 := Lib.hid hx1
  have c0 := (hx1 0 _ rfl).1
  have c1 := (hx1 1 _ rfl).1
  have c2 := (hx1 2 _ rfl).1
  clear hb1 hx1
  go_wp2_with fail
  refine Calls.mono (HFE.out w1 HB1.out) ?_
  rintro e w2 ⟨hb2, hcase⟩
  have HB2 := Lib.hid (HB1.out.trans (hb2.mono HB1.out.size))
  have hx2 := HX1.out.later hb2
  have HX2 := Lib.hid hx2
  clear c0 c1 c2
  have c0 := (hx2 0 _ rfl).1
  have c1 := (hx2 1 _ rfl).1
  have c2 := (hx2 2 _ rfl).1
  clear hb2 hx2
  rcases hcase with rfl | ⟨rfl, hfew⟩
  · go_wp2_with fail
    go_ret
    exact retB rfl HB2.out
  have HFP := Lib.hid hfew
  clear hfew
  rcases Nat.lt_or_ge 20 F.length with h20 | h20
  · have e20 : decide ((20 : Int) < (F.length : Int)) = true := decide_eq_true (by omega)
    go_wp2_with fail
    go_ret
    exact retB rfl HB2.out
  have e20 : decide ((20 : Int) < (F.length : Int)) = false := decide_eq_false (by omega)
  go_wp2_with fail
  refine Calls.mono (HWO.out HFP.out w2 HB2.out) ?_
  rintro e w3 ⟨b, d, rfl, hin, hb3⟩
  have hfact := worst_fact g (l.map (·.1))
  obtain ⟨V, hV⟩ : ∃ V, V = worstV g (l.map (·.1)) := ⟨_, rfl⟩
  rw [← hV] at hin hfact ⊢
  obtain ⟨W, m, e0⟩ := V
  simp only at hin hfact ⊢
  have HIN := Lib.hid hin.ints
  have HFA := Lib.hid hfact
  clear hin hfact hV
  (have HB3 := Lib.hid (HB2.out.trans (hb3.mono HB2.out.size)); have hx3 := HX2.out.later hb3; have HX3 := Lib.hid hx3; clear c0 c1 c2; have c0 := (hx3 0 _ rfl).1; have c1 := (hx3 1 _ rfl).1; have c2 := (hx3 2 _ rfl).1; clear hb3 hx3)
  go_wp2_with fail
  refine Calls.mono (HLO.out HFP.out F fa fc w3 HB3.out (HFI.out.later HB3.out) (by omega)) ?_
  rintro e w4 ⟨rfl, hb4⟩
  obtain ⟨x, hx⟩ : ∃ x, x = (lostN g (l.map (·.1)) F).1 := ⟨_, rfl⟩
  obtain ⟨f, hf⟩ : ∃ x, x = (lostN g (l.map (·.1)) F).2 := ⟨_, rfl⟩
  rw [← hx, ← hf]
  have HXF := Lib.hid (And.intro hx hf)
  have HIN4 := Lib.hid (HIN.out.later hb4)
  clear hx hf
  (have HB4 := Lib.hid (HB3.out.trans (hb4.mono HB3.out.size)); have hx4 := HX3.out.later hb4; have HX4 := Lib.hid hx4; clear c0 c1 c2; have c0 := (hx4 0 _ rfl).1; have c1 := (hx4 1 _ rfl).1; have c2 := (hx4 2 _ rfl).1; clear hb4 hx4)
  by_cases h0 : e0 = 0
  · obtain ⟨hvg, hok, _⟩ := HFA.out.ok h0
    have HVG := Lib.hid hvg
    have HOK := Lib.hid hok
    have hWl := hok.in.2.2
    have h5 := HFP.out.d
    have hlw := lostN_ok ⟨hvg, (allow_iff hvg).2 hok.mem⟩ hok.val
    have hcl := HLO.out HFP.out W b d w4 HB4.out HIN4.out (by omega)
    rw [hlw] at hcl
    simp only at hcl
    have HCL := Lib.hid hcl
    subst h0
    clear hvg hok hWl h5 hlw hcl
    go_wp2_with fail
    refine Calls.mono HCL.out ?_
    rintro e w5 ⟨rfl, hb5⟩
    have HIN5 := Lib.hid (HIN4.out.later hb5)
    (have HB5 := Lib.hid (HB4.out.trans (hb5.mono HB4.out.size)); have hx5 := HX4.out.later hb5; have HX5 := Lib.hid hx5; clear c0 c1 c2; have c0 := (hx5 0 _ rfl).1; have c1 := (hx5 1 _ rfl).1; have c2 := (hx5 2 _ rfl).1; clear hb5 hx5)
    go_wp2_with fail
    refine Calls.mono (HAL.out HVG.out h20 w5 HB5.out) ?_
    rintro e w6 ⟨rfl, hb6⟩
    have HIN6 := Lib.hid (HIN5.out.later hb6)
    (have HB6 := Lib.hid (HB5.out.trans (hb6.mono HB5.out.size)); have hx6 := HX5.out.later hb6; have HX6 := Lib.hid hx6; clear c0 c1 c2; have c0 := (hx6 0 _ rfl).1; have c1 := (hx6 1 _ rfl).1; have c2 := (hx6 2 _ rfl).1; clear hb6 hx6)
    rcases Classical.em (AllowG g F) with hA | hA
    · rw [allowB_true hA]
      obtain ⟨x0, hl1, hl2, hl3, hl4⟩ := HOK.out.all F ((allow_iff HVG.out).1 hA)
      have hlx := lostN_ok ⟨HVG.out, hA⟩ hl1
      have hx0 := HXF.out.1
      have hf0 := HXF.out.2
      rw [hlx] at hx0 hf0
      simp only at hx0 hf0
      subst hx0 hf0
      have HL4 := Lib.hid hl4
      clear hA hl1 hl2 hl4 hlx
      by_cases hlt : x < m
      · have e1 : decide (x ≤ m) = true := decide_eq_true hl3
        have e2 : decide (x < m) = true := decide_eq_true hlt
        go_wp2_with fail
        go_ret
        exact retB rfl HB6.out
      · have hbe := HL4.out.resolve_left hlt
        have hbf := before_any F W fa b fc d w6 (HFI.out.later HB6.out) HIN6.out (by omega)
        rw [hbe] at hbf
        have HBF := Lib.hid hbf
        have e1 : decide (x ≤ m) = true := decide_eq_true hl3
        have e2 : decide (x < m) = false := decide_eq_false hlt
        clear hbe hbf
        go_wp2_with fail
        refine Calls.mono HBF.out ?_
        rintro e w7 ⟨rfl, hb7⟩
        have HB7 := Lib.hid (HB6.out.trans (hb7.mono HB6.out.size))
        clear hb7
        go_wp2_with fail
        go_ret
        exact retB rfl HB7.out
    · rw [allowB_false hA]
      have hlx := lostN_no (plan := l.map (·.1)) (F := F) (g := g) fun h => hA h.2
      have hf0 := HXF.out.2
      rw [hlx] at hf0
      simp only at hf0
      subst hf0
      clear hA hlx
      go_wp2_with fail
      go_ret
      exact retB rfl HB6.out
  · obtain ⟨rfl, rfl, hk⟩ := HFA.out.no h0
    have e1 : (e0 == (0 : Int)) = false := by simpa using h0
    rcases hk with ⟨rfl, hv⟩ | ⟨hk, hv⟩
    · have hvv := HVA.out HFP.out w4 HB4.out
      rw [vgB_false hv] at hvv
      have HVV := Lib.hid hvv
      clear hv hvv h0 e1
      go_wp2_with fail
      refine Calls.mono HVV.out ?_
      rintro e w5 ⟨rfl, hb5⟩
      have HB5 := Lib.hid (HB4.out.trans (hb5.mono HB4.out.size))
      clear hb5
      go_wp2_with fail
      go_ret
      exact retB rfl HB5.out
    · have hvv := HVA.out HFP.out w4 HB4.out
      rw [vgB_true hv] at hvv
      have HVV := Lib.hid hvv
      clear hv hvv h0 e1
      rcases hk with rfl | rfl
      · go_wp2_with fail
        refine Calls.mono HVV.out ?_
        rintro e w5 ⟨rfl, hb5⟩
        have HB5 := Lib.hid (HB4.out.trans (hb5.mono HB4.out.size))
        clear hb5
        go_wp2_with fail
        go_ret
        exact retB rfl HB5.out
      · go_wp2_with fail
        refine Calls.mono HVV.out ?_
        rintro e w5 ⟨rfl, hb5⟩
        have HB5 := Lib.hid (HB4.out.trans (hb5.mono HB4.out.size))
        clear hb5
        go_wp2_with fail
        go_ret
        exact retB rfl HB5.out
theorem walk (w : World) (g : Gm) (sa : Option Addr) (sc : Nat) (da : Option Addr) (dc : Nat) (hG : GmAt w g sa da) (hB : GmBig g) (l : List PA) (a : Option Addr) (c : Nat) (hL : LaP w a l) (hI : InP l) (hll : l.length < 9223372036854775808)
    (fa : Option Addr) (fc : Nat) (F : List Int) (hFi : Ints w fa F) (hFl : F.length < 9223372036854775808) (hfc : F.length ≤ fc) : Calls Try.prog 4 #[gmV g sa sc da dc, .slice a l.length c, .slice fa F.length fc] w (RetB (.bool true) w) :=
  all g sa da sc dc l a c F fa fc w hG hB hL hI hll hFi hFl hfc
end PlayWorst
namespace PlayWorst
set_option maxRecDepth 100000 in
theorem entry (H : Type) (enc : TypeId × Value → H) (W : World) (base : Nat) (args : Array Value) (ds : List (DataW H)) (p : List MemPlace)
    (hval : ∀ (j : Nat) t v, Try.f4.params[j]? = some t → args[j]? = some v → Value.okWide Try.prog W .any base t v)
    (hA : DataW.TrodAll enc Try.prog W 0 (fun _ => true) true Try.f4.params.toList args.toList ds p) :
    Calls Try.prog 4 args W (RetB (.bool true) W) := by
  rw [Try.params4] at hA hval
  obtain ⟨v0, vs0, d0, ds0, p0, q0, hargs, rfl, rfl, h0, r0⟩ := trodAll_cons hA
  obtain ⟨v1, vs1, d1, ds1, p1, q1, rfl, rfl, rfl, h1, r1⟩ := trodAll_cons r0
  obtain ⟨v2, vs2, d2, ds2, p2, q2, rfl, rfl, rfl, h2, r2⟩ := trodAll_cons r1
  obtain ⟨rfl, rfl, rfl⟩ := trodAll_nil r2
  obtain rfl : args = #[v0, v1, v2] := by cases args; simp_all
  obtain ⟨g, ga, gc, gd, ge, rfl, gG, gB⟩ := open_game (hval 0 25 v0 rfl rfl) h0
  obtain ⟨plan, plana, planc, rfl, planL, planI, plann⟩ := open_plan (hval 1 26 v1 rfl rfl) h1
  obtain ⟨failsa, failsc, fails, rfl, failsI, failsl, failsk⟩ := open_ints_at (hval 2 22 v2 rfl rfl) h2
  exact walk W g ga gc gd ge gG gB plan plana planc planL planI plann failsa failsc fails failsI failsl failsk
end PlayWorst
/-! The step from the walk to the row of PlayWorst. -/
namespace PlayWorst
set_option maxRecDepth 100000 in
theorem lifted (os : Os) (started : os.Started) (H : Type) (enc : TypeId × Value → H) :
    ReturnsInHanded {} Try.checked os 4 .any (Rows.playWorstSpec.pre6 enc Try.prog Try.f4 Rows.playWorstRow.domain false) (Rows.playWorstSpec.post enc Try.prog Try.f4 false true false false) := by
  refine returnsInHanded_of_change (C := Try.checked) own started (by kernel_rfl) Try.func4
    (ChangeSpec.witness6 (enc := enc) (C := Try.checked) false ⟨#[], #[.agg #[.slice none 0 0, .slice none 0 0, .int .i64 0], .slice none 0 0, .slice none 0 0], []⟩ 8 (by kernel_rfl) (by kernel_rfl) (by kernel_rfl) (by kernel_rfl)) ?_
  intro W base args ds gs before hval0 hW hcnd _
  have hval : ∀ (j : Nat) t v, Try.f4.params[j]? = some t → args[j]? = some v → Value.okWide Try.prog W .any base t v := hval0
  have hW' := hW
  obtain ⟨p, q, hA0, hV, rfl, hfz, hnd⟩ := hW
  have hA : DataW.TrodAll enc Try.prog W 0 (fun _ => true) true Try.f4.params.toList args.toList ds p := hA0
  obtain ⟨rfl, rfl⟩ := trodVars_none hV
  have hlen := trodAll_len _ _ _ _ hA
  obtain ⟨d0, d1, d2, rfl⟩ : ∃ d0 d1 d2, ds = [d0, d1, d2] := by
    rw [Try.params4] at hlen
    exact list3 hlen
  refine (entry H enc W base args [d0, d1, d2] p hval hA).mono fun e W' ⟨he, bel⟩ => ?_
  subst he
  exact ⟨_, rfl, _, _, _, [], _, [], hW', trodAll_mk1 (shut_bool Try.underlying4 _), readback laidOut _ _ _ _ (by rw [Try.params4]; exact of_decide_eq_true (by kernel_rfl)) hA bel, rfl, bel.frame _, fun h => by cases h⟩

theorem over : Rows.playWorstRow.holds Try.pinned (OpenSpec.ofChange Rows.playWorstSpec) :=
  OpenClaim.holds_of_wide 4 Try.f4 rfl rfl rfl rfl rfl rfl rfl ⟨rfl, rfl, rfl, rfl, rfl⟩ rfl rfl rfl rfl rfl (by kernel_rfl) Try.func4 (by kernel_rfl)
    (of_decide_eq_true (by kernel_rfl)) (by unfold Func.isWrapper; first | (rw [if_pos (by decide +kernel)]; kernel_rfl) | (rw [if_neg (by decide +kernel)]; exact ⟨rfl, rfl⟩))
    (fun os started H enc _ => lifted os started H enc)

/-- THE STATEMENT -/
theorem proved : Rows.PlayWorstSaid := over
end PlayWorst
#print axioms PlayWorst.proved
end Go.Proofs.Ytgjkcnfinjenoaa
