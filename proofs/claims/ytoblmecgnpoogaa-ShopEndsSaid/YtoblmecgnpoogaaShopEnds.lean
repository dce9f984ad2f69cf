



/- ShopEnds: for every tasks, shop and starts that are possible: no task ends behind their length, one ends with it, and it is at least the critical hours: the call of the law returns true, for every input. -/
import Derived.Test.YtoblmecgnpoogaaLift
import Derived.Test.YtoblmecgnpoogaaShpOpen
import Derived.Test.YtoblmecgnpoogaaShpX
import Derived.Test.YtoblmecgnpoogaaShpY
namespace Go.Proofs.Ytoblmecgnpoogaa
open Go.ChangeShapes Go.WideShapes Go.ChangeAt Go.RowKit Go.Joins

namespace ShopEnds
set_option maxRecDepth 100000 in
set_option maxHeartbeats 4000000 in
theorem walk (w : World) (a : Option Addr) (cap : Nat) (l : List Tk) (hT : Tasks w a l) (hl : l.length < 9223372036854775808) (hS : ∀ i, i < l.length → (tg l i).after.length < 9223372036854775808) (s : Sh) (sa : Option Addr) (sc : Nat) (hI : Ints w sa s.staff) (hs : s.staff.length < 9223372036854775808)
    (ia : Option Addr) (ic : Nat) (st : List Int) (hJ : Ints w ia st) (_hm : st.length < 9223372036854775808) :
    Calls Try.prog 9 #[.slice a l.length cap, shV s sa sc, .slice ia st.length ic] w (RetB (.bool true) w) := by
  obtain ⟨m, hm⟩ : ∃ m, m = st.length := ⟨_, rfl⟩
  have HM := Lib.hid hm
  have HJ := Lib.hid hJ
  rw [← hm]
  clear hm hJ _hm
  have hS40 : l.length ≤ 40 → ∀ i, i < l.length → (tg l i).after.length < 9223372036854775808 := fun _ => hS
  obtain ⟨n, hn⟩ : ∃ n, n = l.length := ⟨_, rfl⟩
  obtain ⟨q, hq⟩ : ∃ n, n = s.staff.length := ⟨_, rfl⟩
  obtain ⟨bs, hbs⟩ : ∃ n, n = s.bays := ⟨_, rfl⟩
  have HF := Lib.hid (show ∀ wy, Below w.heap.size w wy → Calls Try.prog 11 #[.slice a n cap] wy (RetAS wy) from fun wy hy => by
    rw [hn]
    exact few_any l a cap wy (hT.later hy) hl hS40)
  have HP := Lib.hid (show ∀ wy, Below w.heap.size w wy → q ≤ 20 → Calls Try.prog 12 #[.slice a n cap, .agg #[.slice sa q sc, .int .i64 bs]] wy (PlanTo l s wy) from fun wy hy h20 => by
    rw [hn, hq, hbs]
    exact plan_any l a cap s sa sc wy (hT.later hy) hl hS40 (hI.later hy) (by omega))
  have HC := Lib.hid (show ∀ wy, Below w.heap.size w wy → q ≤ 20 → ∀ (st : List Int) (ia : Option Addr) (ic m : Nat), Ints wy ia st → m = st.length → m < 9223372036854775807 → Calls Try.prog 17 #[.slice a n cap, .agg #[.slice sa q sc, .int .i64 bs], .slice ia m ic] wy (RetB (.bool (chkB l s st)) wy) from fun wy hy h20 st ia ic m hJ hm hs2 => by
    subst hm
    rw [hn, hq, hbs]
    exact check_any l a cap s sa sc st ia ic wy (hT.later hy) hl hS40 (hI.later hy) (by omega) hJ hs2)
  have HT := Lib.hid hT
  have HI := Lib.hid hI
  have HN := Lib.hid hn
  have HQ := Lib.hid hq
  have HBS := Lib.hid hbs
  have HS := Lib.hid hS40
  have HL := Lib.hid hl
  unfold shV
  rw [← hn, ← hq, ← hbs]
  clear hT hl hS hS40 hI hs hn hq hbs
  go_enter Try.func9, Try.ntmps9
  go_upto_region 1 with fail
  obtain ⟨wX, P, hP, hbX, hBX, hwX⟩ : ∃ wX P, P = w.heap.size ∧ Below w.heap.size w wX ∧ BoxAt wX P [.slice sa q sc, .int .i64 bs] ∧ wX = w.alloc (.cells #[.slice sa q sc, .int .i64 bs] 25) := ⟨_, _, rfl, (Below.refl _ _).alloc (Nat.le_refl _) _, BoxAt.new w _ _, rfl⟩
  rw [← hwX, ← hP]
  have HBX := Lib.hid hbX
  have HX := Lib.hid hBX
  clear hP hbX hBX hwX
  go_wp2_with fail
  refine Calls.mono (head_any _) ?_
  rintro e w1 ⟨rfl, hb1⟩
  have HB1 := Lib.hid (HBX.out.trans (hb1.mono HBX.out.size))
  have HX1 := Lib.hid (HX.out.later hb1)
  have c0 := (HX1.out 0 _ rfl).1
  have c1 := (HX1.out 1 _ rfl).1
  clear hb1 HBX HX
  go_wp2_with fail
  refine Calls.mono (HF.out w1 HB1.out) ?_
  rintro e w2 ⟨b, rfl, rfl⟩
  cases b
  case false =>
    go_wp2_with fail
    go_ret
    exact retB rfl HB1.out
  by_cases hq20 : (20 : Int) < (q : Int)
  · go_wp2_with fail
    go_ret
    exact retB rfl HB1.out
  have HQ20 := Lib.hid (show q ≤ 20 from by omega)
  by_cases h45 : (45 : Int) < (m : Int)
  · go_wp2_with fail
    go_ret
    exact retB rfl HB1.out
  have hcc := HC.out w1 HB1.out HQ20.out st ia ic m (HJ.out.later HB1.out) HM.out (by omega)
  obtain ⟨v, hv⟩ : ∃ v, v = chkB l s st := ⟨_, rfl⟩
  rw [← hv] at hcc
  have HCC := Lib.hid hcc
  have HVE := Lib.hid hv
  clear hcc hv
  go_wp2_with fail
  refine Calls.mono HCC.out ?_
  rintro e w2 ⟨rfl, hb2⟩
  have HB2 := Lib.hid (HB1.out.trans (hb2.mono HB1.out.size))
  clear hb2 c0 c1
  cases v
  case false =>
    go_wp2_with fail
    go_ret
    exact retB rfl HB2.out
  have hk : chkP l s st := Classical.byContradiction fun hn => by
    have h := HVE.out
    rw [chkB_no hn] at h
    cases h
  have hvt := hk.1
  have hmn : m = n := by rw [HM.out, HN.out]; exact hk.2.2.1.1
  subst hmn
  have HVT := Lib.hid hvt
  have HHO := Lib.hid hk.2.2.1
  have HAF := Lib.hid (chk_aft hk)
  have h40 : m ≤ 40 := by rw [HN.out]; exact hvt.1
  obtain ⟨le, hle⟩ : ∃ x, x = lenU l st l.length := ⟨_, rfl⟩
  obtain ⟨cr, hcr⟩ : ∃ x, x = crit l := ⟨_, rfl⟩
  have HLN := Lib.hid (show Calls Try.prog 14 #[.slice a m cap, .slice ia m ic] w2 (RetNE le 0 w2) from by
    have h := length_any l a cap st ia ic w2 (HT.out.later HB2.out) HL.out HS.out (HJ.out.later HB2.out) (by have := HM.out; omega)
    rw [(ln_of hvt hk.2.2.1).1, (ln_of hvt hk.2.2.1).2, ← HN.out, ← HM.out, HN.out, ← hle] at h
    rw [HN.out]
    exact h)
  have HCR := Lib.hid (show ∀ wy, Below w.heap.size w wy → Calls Try.prog 21 #[.slice a m cap] wy (RetNE cr 0 wy) from fun wy hy => by
    have h := critical_any l a cap wy (HT.out.later hy) HL.out HS.out
    rw [(aft_ord hvt HAF.out).1, (aft_ord hvt HAF.out).2, ← hcr, ← HN.out] at h
    exact h)
  have hge : cr ≤ le := by rw [hcr, hle]; exact crit_len hvt HAF.out
  have HLE := Lib.hid hle
  clear hk hvt hle hcr
  go_wp2_with fail
  refine Calls.mono HLN.out ?_
  rintro e w3 ⟨rfl, hb3⟩
  have HB3 := Lib.hid (HB2.out.trans (hb3.mono HB2.out.size))
  clear hb3
  go_wp2_with fail
  refine Calls.mono (HCR.out w3 HB3.out) ?_
  rintro e w4 ⟨rfl, hb4⟩
  have HB4 := Lib.hid (HB3.out.trans (hb4.mono HB3.out.size))
  clear hb4 HB1 HB2 HB3 HLN HCC
  go_wp2_with fail
  go_loopg [12, 13] (m + 1) (fun gk v12 v13 wr => ∃ i : Nat, i ≤ m ∧ gk + i = m + 1 ∧ v13 = .int .i64 i ∧ v12 = .int .i64 (lenU l st i) ∧ Below w.heap.size w wr)
  case atStart => exact ⟨0, by omega, by omega, rfl, rfl, HB4.out⟩
  case round =>
    obtain ⟨i, hi, hgi, rfl, rfl, hbr⟩ := hrel
    have HBR := Lib.hid hbr
    by_cases hlt : i < m
    · have hiL : i < l.length := by rw [← HN.out]; exact hlt
      have hiS : i < st.length := by rw [← HM.out]; exact hlt
      obtain ⟨tb, tf, aa, ac, rfl, b0, _, _, _, _⟩ := (HT.out.later hbr) i hiL
      obtain ⟨jb, jo, rfl, fi⟩ := (HJ.out.later hbr).fam (by omega)
      have ci := fi i hiS
      have htk := HVT.out.2 i hiL
      have hst := HHO.out.2 _ (ig_mem hiS)
      have hmx : lenU l st (i + 1) = max (lenU l st i) (ig st i + (tg l i).hours) := rfl
      obtain ⟨u, hu⟩ : ∃ u, u = lenU l st i := ⟨_, rfl⟩
      obtain ⟨x, hx⟩ : ∃ x, x = ig st i := ⟨_, rfl⟩
      obtain ⟨y, hy⟩ : ∃ y, y = (tg l i).hours := ⟨_, rfl⟩
      have h1 := htk.1
      have h2 := htk.2.1
      rw [← hu, ← hx, ← hy] at hmx
      rw [← hx] at ci hst
      rw [← hy] at b0 h1 h2
      rw [← hu]
      have hw1 : IntKind.i64.wrap (x + y) = x + y := IntWalk.i64_in _ (by omega)
      have n1 : (i : Int) < (m : Int) := by omega
      have n0 : (0 : Int) ≤ (i : Int) := by omega
      have HMX := Lib.hid hmx
      have hS : ∀ wy : World, Below wr.heap.size wr wy → wy.cell? ⟨tb, tf + i * 4, none⟩ = some (.int .i64 y) ∧ wy.cell? ⟨jb, jo + i, none⟩ = some (.int .i64 x) := fun wy hy => ⟨cell_later hy b0, cell_later hy ci⟩
      clear hu hx hy fi htk hst h1 h2 hmx b0 ci hiL hiS hbr
      go_upto_region 12 with fail
      refine wp_flow_s [] [] (by kernel_rfl) (by kernel_rfl) (by kernel_rfl) ?_
      repeat (first | ((with_reducible refine Flow.pure hS StayG.nil (v := ?_) ?_ ?_ ?_ ?_); rotate_left 1; (focus kernel_rfl); (focus (intro _; rfl)); (focus (intro β wx hSw; (try dsimp only at hSw); go_simp; (try with_reducible rfl); done)); (try simp only [Act.put, List.setIfInBounds_toArray, List.set_cons_zero, List.set_cons_succ, Nat.reduceAdd])) | ((with_reducible refine Flow.skip StayG.nil ?_ ?_ ?_); (focus kernel_rfl); (focus (intro _; rfl)); (try simp only [Act.put, List.setIfInBounds_toArray, List.set_cons_zero, List.set_cons_succ, Nat.reduceAdd])))
      ((with_reducible refine Flow.stop ?_); dsimp only; intro β w9 hI9)
      have HB9 := Lib.hid (HBR.out.trans (hI9.below.mono HBR.out.size))
      clear hS hI9
      go_wp2_with fail
      go_roundg (gk - 1)
      case measure => omega
      case rel => exact ⟨i + 1, by omega, by omega, by go_num, by rw [HMX.out], HB9.out⟩
    · obtain rfl : i = m := by omega
      have he : lenU l st i = le := by rw [HLE.out, HN.out]
      rw [he]
      clear he hbr
      go_wp2_with fail
      go_ret
      exact retB rfl HBR.out
end ShopEnds
namespace ShopEnds
set_option maxRecDepth 100000 in
theorem entry (H : Type) (enc : TypeId × Value → H) (W : World) (base : Nat) (args : Array Value) (ds : List (DataW H)) (p : List MemPlace)
    (hval : ∀ (j : Nat) t v, Try.f9.params[j]? = some t → args[j]? = some v → Value.okWide Try.prog W .any base t v)
    (hA : DataW.TrodAll enc Try.prog W 0 (fun _ => true) true Try.f9.params.toList args.toList ds p) :
    Calls Try.prog 9 args W (RetB (.bool true) W) := by
  rw [Try.params9] at hA hval
  obtain ⟨v0, vs0, d0, ds0, p0, q0, hargs, rfl, rfl, h0, r0⟩ := trodAll_cons hA
  obtain ⟨v1, vs1, d1, ds1, p1, q1, rfl, rfl, rfl, h1, r1⟩ := trodAll_cons r0
  obtain ⟨v2, vs2, d2, ds2, p2, q2, rfl, rfl, rfl, h2, r2⟩ := trodAll_cons r1
  obtain ⟨rfl, rfl, rfl⟩ := trodAll_nil r2
  obtain rfl : args = #[v0, v1, v2] := by cases args; simp_all
  obtain ⟨la, lc, l, rfl, lT, ll, ls⟩ := open_tasks (hval 0 22 v0 rfl rfl) h0
  obtain ⟨s, sa, sc, rfl, sI, sl⟩ := open_shop (hval 1 25 v1 rfl rfl) h1
  obtain ⟨ta, tc, t, rfl, tI, tl⟩ := open_ints_at (hval 2 23 v2 rfl rfl) h2
  exact walk W la lc l lT ll ls s sa sc sI sl ta tc t tI tl
end ShopEnds
/-! The step from the walk to the row of ShopEnds. -/
namespace ShopEnds
set_option maxRecDepth 100000 in
theorem lifted (os : Os) (started : os.Started) (H : Type) (enc : TypeId × Value → H) :
    ReturnsInHanded {} Try.checked os 9 .any (Rows.shopEndsSpec.pre6 enc Try.prog Try.f9 Rows.shopEndsRow.domain false) (Rows.shopEndsSpec.post enc Try.prog Try.f9 false true false false) := by
  refine returnsInHanded_of_change (C := Try.checked) own started (by kernel_rfl) Try.func9
    (ChangeSpec.witness6 (enc := enc) (C := Try.checked) false ⟨#[], #[.slice none 0 0, .agg #[.slice none 0 0, .int .i64 0], .slice none 0 0], []⟩ 8 (by kernel_rfl) (by kernel_rfl) (by kernel_rfl) (by kernel_rfl)) ?_
  intro W base args ds gs before hval0 hW hcnd _
  have hval : ∀ (j : Nat) t v, Try.f9.params[j]? = some t → args[j]? = some v → Value.okWide Try.prog W .any base t v := hval0
  have hW' := hW
  obtain ⟨p, q, hA0, hV, rfl, hfz, hnd⟩ := hW
  have hA : DataW.TrodAll enc Try.prog W 0 (fun _ => true) true Try.f9.params.toList args.toList ds p := hA0
  obtain ⟨rfl, rfl⟩ := trodVars_none hV
  have hlen := trodAll_len _ _ _ _ hA
  obtain ⟨d0, d1, d2, rfl⟩ : ∃ d0 d1 d2, ds = [d0, d1, d2] := by
    rw [Try.params9] at hlen
    exact list3 hlen
  refine (entry H enc W base args [d0, d1, d2] p hval hA).mono fun e W' ⟨he, bel⟩ => ?_
  subst he
  exact ⟨_, rfl, _, _, _, [], _, [], hW', trodAll_mk1 (shut_bool Try.underlying4 _), readback laidOut _ _ _ _ (by rw [Try.params9]; exact of_decide_eq_true (by kernel_rfl)) hA bel, rfl, bel.frame _, fun h => by cases h⟩

theorem over : Rows.shopEndsRow.holds Try.pinned (OpenSpec.ofChange Rows.shopEndsSpec) :=
  OpenClaim.holds_of_wide 9 Try.f9 rfl rfl rfl rfl rfl rfl rfl ⟨rfl, rfl, rfl, rfl, rfl⟩ rfl rfl rfl rfl rfl (by kernel_rfl) Try.func9 (by kernel_rfl)
    (of_decide_eq_true (by kernel_rfl)) (by unfold Func.isWrapper; first | (rw [if_pos (by decide +kernel)]; kernel_rfl) | (rw [if_neg (by decide +kernel)]; exact ⟨rfl, rfl⟩))
    (fun os started H enc _ => lifted os started H enc)

/-- THE STATEMENT -/
theorem proved : Rows.ShopEndsSaid := over
end ShopEnds
#print axioms ShopEnds.proved
end Go.Proofs.Ytoblmecgnpoogaa
