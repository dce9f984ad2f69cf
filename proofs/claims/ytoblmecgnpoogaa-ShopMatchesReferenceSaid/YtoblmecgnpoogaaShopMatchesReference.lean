



/- ShopMatchesReference: for every tasks, shop and starts, all functions agree with the reference implementation: the call of the law returns true, for every input. -/
import Derived.Test.YtoblmecgnpoogaaLift
import Derived.Test.YtoblmecgnpoogaaShpOpen
import Derived.Test.YtoblmecgnpoogaaShpX
import Derived.Test.YtoblmecgnpoogaaShpRz
namespace Go.Proofs.Ytoblmecgnpoogaa
open Go.ChangeShapes Go.WideShapes Go.ChangeAt Go.RowKit Go.Joins

namespace ShopMatchesReference
theorem planR_len {l : List Tk} {s : Sh} {st : List Int} {n : Int} (h : PlanR l s st n) : st.length ≤ 40 := by
  rcases h with ⟨_, rfl, _⟩ | ⟨_, rfl, _⟩ | ⟨_, rfl, _⟩ | ⟨_, hv, _, _, _, g⟩
  · exact Nat.zero_le _
  · exact Nat.zero_le _
  · exact Nat.zero_le _
  · rw [g.len]; exact hv.1
set_option maxRecDepth 100000 in
set_option maxHeartbeats 4000000 in
theorem walk (w : World) (a : Option Addr) (cap : Nat) (l : List Tk) (hT : Tasks w a l) (hl : l.length < 9223372036854775808) (hS : ∀ i, i < l.length → (tg l i).after.length < 9223372036854775808) (s : Sh) (sa : Option Addr) (sc : Nat) (hI : Ints w sa s.staff) (hs : s.staff.length < 9223372036854775808)
    (ia : Option Addr) (ic : Nat) (st : List Int) (hJ : Ints w ia st) (_hm : st.length < 9223372036854775808) :
    Calls Try.prog 3 #[.slice a l.length cap, shV s sa sc, .slice ia st.length ic] w (RetB (.bool true) w) := by
  obtain ⟨m, hm⟩ : ∃ m, m = st.length := ⟨_, rfl⟩
  obtain ⟨ln, hln⟩ : ∃ x, x = lnN l st := ⟨_, rfl⟩
  obtain ⟨le, hle⟩ : ∃ x, x = lnE l st := ⟨_, rfl⟩
  obtain ⟨ck, hck⟩ : ∃ x, x = chkB l s st := ⟨_, rfl⟩
  have HR1 := Lib.hid (show ∀ wy (n' : Nat) (pl : List Int) (pe : Int), Below w.heap.size w wy → n' = l.length → s.staff.length ≤ 20 → PlanR l s pl pe → Calls Try.prog 13 #[.slice a n' cap, .agg #[.slice sa s.staff.length sc, .int .i64 s.bays]] wy (RetIE pl pe wy) from fun wy n' pl pe hy hn' h20 hp => by
    subst hn'
    exact rplan_any l a cap s sa sc pl pe wy (hT.later hy) hl (fun _ => hS) (hI.later hy) h20 hp)
  have HR2 := Lib.hid (show ∀ wy (n' : Nat), Below w.heap.size w wy → n' = l.length → m ≤ 45 → Calls Try.prog 14 #[.slice a n' cap, .slice ia m ic] wy (RetNE ln le wy) from fun wy n' hy hn' h45 => by
    subst hn'
    rw [hln, hle, hm]
    exact length_any l a cap st ia ic wy (hT.later hy) hl (fun _ => hS) (hJ.later hy) (by omega))
  have HR3 := Lib.hid (show ∀ wy (n' : Nat), Below w.heap.size w wy → n' = l.length → m ≤ 45 → Calls Try.prog 15 #[.slice a n' cap, .slice ia m ic] wy (RetNE ln le wy) from fun wy n' hy hn' h45 => by
    subst hn'
    rw [hln, hle, hm]
    exact rlength_any l a cap st ia ic wy (hT.later hy) hl (fun _ => hS) (hJ.later hy) (by omega))
  have HR4 := Lib.hid (show ∀ wy (n' : Nat), Below w.heap.size w wy → n' = l.length → s.staff.length ≤ 20 → m ≤ 45 → Calls Try.prog 17 #[.slice a n' cap, .agg #[.slice sa s.staff.length sc, .int .i64 s.bays], .slice ia m ic] wy (RetB (.bool ck) wy) from fun wy n' hy hn' h20 h45 => by
    subst hn'
    rw [hck, hm]
    exact check_any l a cap s sa sc st ia ic wy (hT.later hy) hl (fun _ => hS) (hI.later hy) (by omega) (hJ.later hy) (by omega))
  have HR5 := Lib.hid (show ∀ wy (n' : Nat), Below w.heap.size w wy → n' = l.length → s.staff.length ≤ 20 → m ≤ 45 → Calls Try.prog 18 #[.slice a n' cap, .agg #[.slice sa s.staff.length sc, .int .i64 s.bays], .slice ia m ic] wy (RetB (.bool ck) wy) from fun wy n' hy hn' h20 h45 => by
    subst hn'
    rw [hck, hm]
    exact rcheck_any l a cap s sa sc st ia ic wy (hT.later hy) hl (fun _ => hS) (hI.later hy) h20 (hJ.later hy) (by omega))
  rw [← hm]
  clear hm hJ _hm hln hle hck
  have hS40 : l.length ≤ 40 → ∀ i, i < l.length → (tg l i).after.length < 9223372036854775808 := fun _ => hS
  obtain ⟨n, hn⟩ : ∃ n, n = l.length := ⟨_, rfl⟩
  obtain ⟨q, hq⟩ : ∃ n, n = s.staff.length := ⟨_, rfl⟩
  obtain ⟨bs, hbs⟩ : ∃ n, n = s.bays := ⟨_, rfl⟩
  have HF := Lib.hid (show ∀ wy, Below w.heap.size w wy → Calls Try.prog 11 #[.slice a n cap] wy (RetAS wy) from fun wy hy => by
    rw [hn]
    exact few_any l a cap wy (hT.later hy) hl hS40)
  have HP := Lib.hid (show ∀ wy, Below w.heap.size w wy → q ≤ 20 → Calls Try.prog 12 #[.slice a n cap, .agg #[.slice sa q sc, .int .i64 bs]] wy (PlanTo l s wy) from fun wy hy h20 => by
    rw [hn, hq, hbs]
    exact plan_any l a cap s sa sc wy (hT.later hy) hl hS40 (hI.later hy) (by omega))
  have HC := Lib.hid (show ∀ wy, Below w.heap.size w wy → q ≤ 20 → ∀ (st : List Int) (ia : Option Addr) (ic m : Nat), Ints wy ia st → m = st.length → m < 9223372036854775807 → Calls Try.prog 17 #[.slice a n cap, .agg #[.slice sa q sc, .int .i64 bs], .slice ia m ic] wy (RetB (.bool (chkB l s st)) wy) from fun wy hy h20 st ia ic m hJ hm hs2 => by
    subst hm
    rw [hn, hq, hbs]
    exact check_any l a cap s sa sc st ia ic wy (hT.later hy) hl hS40 (hI.later hy) (by omega) hJ hs2)
  have HT := Lib.hid hT
  have HI := Lib.hid hI
  have HN := Lib.hid hn
  have HQ := Lib.hid hq
  have HBS := Lib.hid hbs
  have HS := Lib.hid hS40
  have HL := Lib.hid hl
  unfold shV
  rw [← hn, ← hq, ← hbs]
  clear hT hl hS hS40 hI hs hn hq hbs
  go_enter Try.func3, Try.ntmps3
  go_upto_region 1 with fail
  obtain ⟨wX, P, hP, hbX, hBX, hwX⟩ : ∃ wX P, P = w.heap.size ∧ Below w.heap.size w wX ∧ BoxAt wX P [.slice sa q sc, .int .i64 bs] ∧ wX = w.alloc (.cells #[.slice sa q sc, .int .i64 bs] 25) := ⟨_, _, rfl, (Below.refl _ _).alloc (Nat.le_refl _) _, BoxAt.new w _ _, rfl⟩
  rw [← hwX, ← hP]
  have HBX := Lib.hid hbX
  have HX := Lib.hid hBX
  clear hP hbX hBX hwX
  go_wp2_with fail
  refine Calls.mono (head_any _) ?_
  rintro e w1 ⟨rfl, hb1⟩
  have HB1 := Lib.hid (HBX.out.trans (hb1.mono HBX.out.size))
  have HX1 := Lib.hid (HX.out.later hb1)
  have c0 := (HX1.out 0 _ rfl).1
  have c1 := (HX1.out 1 _ rfl).1
  clear hb1 HBX HX
  go_wp2_with fail
  refine Calls.mono (HF.out w1 HB1.out) ?_
  rintro e w2 ⟨b, rfl, rfl⟩
  cases b
  case false =>
    go_wp2_with fail
    go_ret
    exact retB rfl HB1.out
  by_cases hq20 : (20 : Int) < (q : Int)
  · go_wp2_with fail
    go_ret
    exact retB rfl HB1.out
  have HQ20 := Lib.hid (show q ≤ 20 from by omega)
  by_cases h45 : (45 : Int) < (m : Int)
  · go_wp2_with fail
    go_ret
    exact retB rfl HB1.out
  have HM45 := Lib.hid (show m ≤ 45 from by omega)
  go_wp2_with fail
  refine Calls.mono (HP.out w1 HB1.out HQ20.out) ?_
  rintro e w2 ⟨pl, pe, hr, ja, jc, rfl, hj, hb2⟩
  have HB2 := Lib.hid (HB1.out.trans (hb2.mono HB1.out.size))
  have HX2 := Lib.hid (HX1.out.later hb2)
  have HJ2 := Lib.hid hj
  have hrp := HR1.out w2 n pl pe HB2.out HN.out (by rw [← HQ.out]; exact HQ20.out) hr
  rw [← HQ.out, ← HBS.out] at hrp
  have HRP := Lib.hid hrp
  have HPL := Lib.hid (planR_len hr)
  obtain ⟨pn, hpn⟩ : ∃ x, x = pl.length := ⟨_, rfl⟩
  have HPN := Lib.hid hpn
  have d0 := (HX2.out 0 _ rfl).1
  have d1 := (HX2.out 1 _ rfl).1
  rw [← hpn]
  clear hb2 hj hr hrp c0 c1 hpn HP HC HF
  go_wp2_with fail
  refine Calls.mono HRP.out ?_
  rintro e w3 ⟨ka, kc, rfl, hj3, hb3⟩
  have HB3 := Lib.hid (HB2.out.trans (hb3.mono HB2.out.size))
  have HJ3 := Lib.hid (HJ2.out.later hb3)
  have HK3 := Lib.hid hj3
  have HX3 := Lib.hid (HX2.out.later hb3)
  rw [← HPN.out]
  clear hb3 hj3 d0 d1 HX1 HX2
  go_wp2_with fail
  refine Calls.mono (HR2.out w3 n HB3.out HN.out HM45.out) ?_
  rintro e w4 ⟨rfl, hb4⟩
  have HB4 := Lib.hid (HB3.out.trans (hb4.mono HB3.out.size))
  have HJ4 := Lib.hid (HJ3.out.later hb4)
  have HK4 := Lib.hid (HK3.out.later hb4)
  have HX4 := Lib.hid (HX3.out.later hb4)
  clear hb4
  go_wp2_with fail
  refine Calls.mono (HR3.out w4 n HB4.out HN.out HM45.out) ?_
  rintro e w5 ⟨rfl, hb5⟩
  have HB5 := Lib.hid (HB4.out.trans (hb5.mono HB4.out.size))
  have HJ5 := Lib.hid (HJ4.out.later hb5)
  have HK5 := Lib.hid (HK4.out.later hb5)
  have HX5 := Lib.hid (HX4.out.later hb5)
  clear hb5
  have HCI := Lib.hid (show ∀ wy, Below w5.heap.size w5 wy → Calls Try.prog 16 #[.slice ja pn jc, .slice ka pn kc] wy (RetB (.bool true) wy) from fun wy hy => by
    have h := rints_any pl pl true ja ka jc kc wy (HJ5.out.later hy) (HK5.out.later hy) (by have := HPL.out; omega) (by have := HPL.out; omega) (by simp)
    rw [← HPN.out] at h
    exact h)
  have HC4 := Lib.hid (show ∀ wy, Below w.heap.size w wy → Calls Try.prog 17 #[.slice a n cap, .agg #[.slice sa q sc, .int .i64 bs], .slice ia m ic] wy (RetB (.bool ck) wy) from fun wy hy => by
    have h := HR4.out wy n hy HN.out (by rw [← HQ.out]; exact HQ20.out) HM45.out
    rw [← HQ.out, ← HBS.out] at h
    exact h)
  have HC5 := Lib.hid (show ∀ wy, Below w.heap.size w wy → Calls Try.prog 18 #[.slice a n cap, .agg #[.slice sa q sc, .int .i64 bs], .slice ia m ic] wy (RetB (.bool ck) wy) from fun wy hy => by
    have h := HR5.out wy n hy HN.out (by rw [← HQ.out]; exact HQ20.out) HM45.out
    rw [← HQ.out, ← HBS.out] at h
    exact h)
  have d0 := (HX5.out 0 _ rfl).1
  have d1 := (HX5.out 1 _ rfl).1
  have hS : ∀ wy : World, Below w5.heap.size w5 wy → wy.cell? ⟨P, 0, none⟩ = some (.slice sa q sc) ∧ wy.cell? ⟨P, 1, none⟩ = some (.int .i64 bs) := fun wy hy => ⟨cell_later hy d0, cell_later hy d1⟩
  clear d0 d1 HR1 HR2 HR3 HR4 HR5 HRP
  go_upto_region 8 with fail
  refine wp_flow_s [] [] (by kernel_rfl) (by kernel_rfl) (by kernel_rfl) ?_
  repeat (first | ((with_reducible refine Flow.pure hS StayG.nil (v := ?_) ?_ ?_ ?_ ?_); rotate_left 1; (focus kernel_rfl); (focus (intro _; rfl)); (focus (intro β wx hSw; (try dsimp only at hSw); go_simp; (try with_reducible rfl); done)); (try simp only [Act.put, List.setIfInBounds_toArray, List.set_cons_zero, List.set_cons_succ, Nat.reduceAdd])) | ((with_reducible refine Flow.skip StayG.nil ?_ ?_ ?_); (focus kernel_rfl); (focus (intro _; rfl)); (try simp only [Act.put, List.setIfInBounds_toArray, List.set_cons_zero, List.set_cons_succ, Nat.reduceAdd])) | ((with_reducible refine Flow.call hS StayG.nil (v := ?_) ?_ ?_ ?_ ?_); rotate_left 1; (focus kernel_rfl); (focus (intro _; rfl)); (focus (intro β L wx hI hat hSw K' hK; (try dsimp only at hSw); go_simp; go_at_call 16; refine Calls.mono (HCI.out wx hI.below) ?_; rintro e w' ⟨rfl, hb'⟩; exact hK.out _ hb')); (try simp only [Act.put, List.setIfInBounds_toArray, List.set_cons_zero, List.set_cons_succ, Nat.reduceAdd])) | ((with_reducible refine Flow.call hS StayG.nil (v := ?_) ?_ ?_ ?_ ?_); rotate_left 1; (focus kernel_rfl); (focus (intro _; rfl)); (focus (intro β L wx hI hat hSw K' hK; (try dsimp only at hSw); go_simp; go_at_call 17; refine Calls.mono (HC4.out wx (HB5.out.trans (hI.below.mono HB5.out.size))) ?_; rintro e w' ⟨rfl, hb'⟩; exact hK.out _ hb')); (try simp only [Act.put, List.setIfInBounds_toArray, List.set_cons_zero, List.set_cons_succ, Nat.reduceAdd])) | ((with_reducible refine Flow.call hS StayG.nil (v := ?_) ?_ ?_ ?_ ?_); rotate_left 1; (focus kernel_rfl); (focus (intro _; rfl)); (focus (intro β L wx hI hat hSw K' hK; (try dsimp only at hSw); go_simp; go_at_call 18; refine Calls.mono (HC5.out wx (HB5.out.trans (hI.below.mono HB5.out.size))) ?_; rintro e w' ⟨rfl, hb'⟩; exact hK.out _ hb')); (try simp only [Act.put, List.setIfInBounds_toArray, List.set_cons_zero, List.set_cons_succ, Nat.reduceAdd])))
  ((with_reducible refine Flow.stop ?_); dsimp only; intro β w9 hI9)
  have HB9 := Lib.hid (HB5.out.trans (hI9.below.mono HB5.out.size))
  clear hS hI9
  go_wp2_with fail
  go_ret
  exact retB rfl HB9.out
end ShopMatchesReference
namespace ShopMatchesReference
set_option maxRecDepth 100000 in
theorem entry (H : Type) (enc : TypeId × Value → H) (W : World) (base : Nat) (args : Array Value) (ds : List (DataW H)) (p : List MemPlace)
    (hval : ∀ (j : Nat) t v, Try.f3.params[j]? = some t → args[j]? = some v → Value.okWide Try.prog W .any base t v)
    (hA : DataW.TrodAll enc Try.prog W 0 (fun _ => true) true Try.f3.params.toList args.toList ds p) :
    Calls Try.prog 3 args W (RetB (.bool true) W) := by
  rw [Try.params3] at hA hval
  obtain ⟨v0, vs0, d0, ds0, p0, q0, hargs, rfl, rfl, h0, r0⟩ := trodAll_cons hA
  obtain ⟨v1, vs1, d1, ds1, p1, q1, rfl, rfl, rfl, h1, r1⟩ := trodAll_cons r0
  obtain ⟨v2, vs2, d2, ds2, p2, q2, rfl, rfl, rfl, h2, r2⟩ := trodAll_cons r1
  obtain ⟨rfl, rfl, rfl⟩ := trodAll_nil r2
  obtain rfl : args = #[v0, v1, v2] := by cases args; simp_all
  obtain ⟨la, lc, l, rfl, lT, ll, ls⟩ := open_tasks (hval 0 22 v0 rfl rfl) h0
  obtain ⟨s, sa, sc, rfl, sI, sl⟩ := open_shop (hval 1 25 v1 rfl rfl) h1
  obtain ⟨ta, tc, t, rfl, tI, tl⟩ := open_ints_at (hval 2 23 v2 rfl rfl) h2
  exact walk W la lc l lT ll ls s sa sc sI sl ta tc t tI tl
end ShopMatchesReference
/-! The step from the walk to the row of ShopMatchesReference. -/
namespace ShopMatchesReference
set_option maxRecDepth 100000 in
theorem lifted (os : Os) (started : os.Started) (H : Type) (enc : TypeId × Value → H) :
    ReturnsInHanded {} Try.checked os 3 .any (Rows.shopMatchesReferenceSpec.pre6 enc Try.prog Try.f3 Rows.shopMatchesReferenceRow.domain false) (Rows.shopMatchesReferenceSpec.post enc Try.prog Try.f3 false true false false) := by
  refine returnsInHanded_of_change (C := Try.checked) own started (by kernel_rfl) Try.func3
    (ChangeSpec.witness6 (enc := enc) (C := Try.checked) false ⟨#[], #[.slice none 0 0, .agg #[.slice none 0 0, .int .i64 0], .slice none 0 0], []⟩ 8 (by kernel_rfl) (by kernel_rfl) (by kernel_rfl) (by kernel_rfl)) ?_
  intro W base args ds gs before hval0 hW hcnd _
  have hval : ∀ (j : Nat) t v, Try.f3.params[j]? = some t → args[j]? = some v → Value.okWide Try.prog W .any base t v := hval0
  have hW' := hW
  obtain ⟨p, q, hA0, hV, rfl, hfz, hnd⟩ := hW
  have hA : DataW.TrodAll enc Try.prog W 0 (fun _ => true) true Try.f3.params.toList args.toList ds p := hA0
  obtain ⟨rfl, rfl⟩ := trodVars_none hV
  have hlen := trodAll_len _ _ _ _ hA
  obtain ⟨d0, d1, d2, rfl⟩ : ∃ d0 d1 d2, ds = [d0, d1, d2] := by
    rw [Try.params3] at hlen
    exact list3 hlen
  refine (entry H enc W base args [d0, d1, d2] p hval hA).mono fun e W' ⟨he, bel⟩ => ?_
  subst he
  exact ⟨_, rfl, _, _, _, [], _, [], hW', trodAll_mk1 (shut_bool Try.underlying4 _), readback laidOut _ _ _ _ (by rw [Try.params3]; exact of_decide_eq_true (by kernel_rfl)) hA bel, rfl, bel.frame _, fun h => by cases h⟩

theorem over : Rows.shopMatchesReferenceRow.holds Try.pinned (OpenSpec.ofChange Rows.shopMatchesReferenceSpec) :=
  OpenClaim.holds_of_wide 3 Try.f3 rfl rfl rfl rfl rfl rfl rfl ⟨rfl, rfl, rfl, rfl, rfl⟩ rfl rfl rfl rfl rfl (by kernel_rfl) Try.func3 (by kernel_rfl)
    (of_decide_eq_true (by kernel_rfl)) (by unfold Func.isWrapper; first | (rw [if_pos (by decide +kernel)]; kernel_rfl) | (rw [if_neg (by decide +kernel)]; exact ⟨rfl, rfl⟩))
    (fun os started H enc _ => lifted os started H enc)

/-- THE STATEMENT -/
theorem proved : Rows.ShopMatchesReferenceSaid := over
end ShopMatchesReference
#print axioms ShopMatchesReference.proved
end Go.Proofs.Ytoblmecgnpoogaa
