



/- ShopFewer: for every tasks, shop and starts that are possible: without the last task they are possible, if no other task refers to it: the call of the law returns true, for every input. -/
import Derived.Test.YtoblmecgnpoogaaLift
import Derived.Test.YtoblmecgnpoogaaShpOpen
import Derived.Test.YtoblmecgnpoogaaShpX
import Derived.Test.YtoblmecgnpoogaaShpY
namespace Go.Proofs.Ytoblmecgnpoogaa
open Go.ChangeShapes Go.WideShapes Go.ChangeAt Go.RowKit Go.Joins

namespace ShopFewer
theorem tg_take {l : List Tk} {n i : Nat} (hi : i < n) : tg (l.take n) i = tg l i := by
  unfold tg
  rw [List.getD_eq_getElem?_getD, List.getD_eq_getElem?_getD, List.getElem?_take, if_pos hi]
theorem ig_take {l : List Int} {n i : Nat} (hi : i < n) : ig (l.take n) i = ig l i := by
  unfold ig
  rw [List.getD_eq_getElem?_getD, List.getD_eq_getElem?_getD, List.getElem?_take, if_pos hi]
theorem tasks_take {w : World} {a : Option Addr} {l : List Tk} (h : Tasks w a l) (n : Nat) (hn : n ≤ l.length) : Tasks w a (l.take n) := fun i hi => by
  rw [List.length_take] at hi
  rw [tg_take (by omega)]
  exact h i (by omega)
theorem ints_take {w : World} {a : Option Addr} {l : List Int} (h : Ints w a l) (n : Nat) (hn : n ≤ l.length) : Ints w a (l.take n) := fun i hi => by
  rw [List.length_take] at hi
  rw [ig_take (by omega)]
  exact h i (by omega)
theorem fewer {l : List Tk} {s : Sh} {st : List Int} {n : Nat} (h : chkP l s st) (hn : l.length = n + 1) (hno : ∀ i, i < n → ∀ r, r < (tg l i).after.length → ig (tg l i).after r ≠ (n : Int)) : chkP (l.take n) s (st.take n) := by
  obtain ⟨hv, hs, ho, hg⟩ := h
  have hll : (l.take n).length = n := by rw [List.length_take]; omega
  have hv' : VT (l.take n) := by
    refine ⟨by have := hv.1; omega, fun i hi => ?_⟩
    rw [hll] at hi ⊢
    rw [tg_take hi]
    obtain ⟨h1, h2, h3, h4, h5⟩ := hv.2 i (by omega)
    refine ⟨h1, h2, h3, h4, fun r hr => ⟨(h5 r hr).1, ?_⟩⟩
    have h6 := (h5 r hr).2
    have h7 := hno i hi r hr
    rw [hn] at h6
    omega
  refine ⟨hv', hs, ⟨by rw [List.length_take, hll, ho.1]; omega, fun x hx => ho.2 x (List.mem_of_mem_take hx)⟩, fun i hi => ?_⟩
  have hi' := hi
  rw [hll] at hi
  obtain ⟨g1, g2⟩ := hg i (by omega)
  have hend : ∀ k, k < n → endAt (l.take n) (st.take n) k = endAt l st k := fun k hk => by unfold endAt; rw [tg_take hk, ig_take hk]
  refine ⟨?_, ?_⟩
  · rw [late_iff] at g1 ⊢
    rw [tg_take hi, ig_take hi]
    intro a ha
    have hal := after_ok hv' hi' (by rw [tg_take hi]; exact ha)
    rw [hll] at hal
    rw [hend _ hal]
    exact g1 a ha
  · rw [fitsU_iff hv] at g2
    rw [fitsU_iff hv', ig_take hi]
    have hc : ∀ (Q Q' : Nat → Bool), (∀ k, k < n → Q' k = Q k) → cR (l.take n) (st.take n) (ig st i) Q' ≤ cR l st (ig st i) Q := fun Q Q' hq => by
      unfold cR
      rw [hll, hn]
      have e : cntP (fun j => runs (l.take n) (st.take n) (ig st i) j && Q' j) n = cntP (fun j => runs l st (ig st i) j && Q j) n := cntP_congr fun k hk => by
        unfold runs
        rw [tg_take hk, ig_take hk, hq k hk]
      rw [e]
      show _ ≤ cntP _ n + _
      exact Nat.le_add_right _ _
    refine ⟨fun sk hsk h0 => ?_, ?_⟩
    · have h1 := hc (isS l sk) (isS (l.take n) sk) fun k hk => by unfold isS; rw [tg_take hk]
      have h2 := g2.1 sk hsk (by omega)
      exact ⟨h2.1, by omega⟩
    · have h1 := hc (isB l) (isB (l.take n)) fun k hk => by unfold isB; rw [tg_take hk]
      have := g2.2
      omega
set_option maxRecDepth 100000 in
set_option maxHeartbeats 4000000 in
theorem walk (w : World) (a : Option Addr) (cap : Nat) (l : List Tk) (hT : Tasks w a l) (hl : l.length < 9223372036854775808) (hS : ∀ i, i < l.length → (tg l i).after.length < 9223372036854775808) (hlc : l.length ≤ cap) (hcm : cap ≤ 9223372036854775807) (s : Sh) (sa : Option Addr) (sc : Nat) (hI : Ints w sa s.staff) (hs : s.staff.length < 9223372036854775808)
    (ia : Option Addr) (ic : Nat) (st : List Int) (hJ : Ints w ia st) (_hm : st.length < 9223372036854775808) (hic : st.length ≤ ic) (hjm : ic ≤ 9223372036854775807) :
    Calls Try.prog 7 #[.slice a l.length cap, shV s sa sc, .slice ia st.length ic] w (RetB (.bool true) w) := by
  obtain ⟨m, hm⟩ : ∃ m, m = st.length := ⟨_, rfl⟩
  have HM := Lib.hid hm
  have HJ := Lib.hid hJ
  have HCK := Lib.hid (show ∀ wy (l' : List Tk) (st' : List Int) (n' : Nat), Below w.heap.size w wy → l'.length = n' → st'.length = n' → n' ≤ 40 → (∀ i, i < n' → (tg l' i).after.length < 9223372036854775808) → Tasks wy a l' → Ints wy ia st' → s.staff.length ≤ 20 → Calls Try.prog 17 #[.slice a n' cap, .agg #[.slice sa s.staff.length sc, .int .i64 s.bays], .slice ia n' ic] wy (RetB (.bool (chkB l' s st')) wy) from fun wy l' st' n' hy h1 h2 h3 h4 h5 h6 h7 => by
    have h := check_any l' a cap s sa sc st' ia ic wy h5 (by omega) (fun _ => by rw [h1]; exact h4) (hI.later hy) (by omega) h6 (by omega)
    rw [h1, h2] at h
    exact h)
  have HSZ := Lib.hid (And.intro hlc (And.intro hcm (And.intro hic hjm)))
  rw [← hm]
  clear hm hJ _hm hlc hcm hic hjm
  have hS40 : l.length ≤ 40 → ∀ i, i < l.length → (tg l i).after.length < 9223372036854775808 := fun _ => hS
  obtain ⟨n, hn⟩ : ∃ n, n = l.length := ⟨_, rfl⟩
  obtain ⟨q, hq⟩ : ∃ n, n = s.staff.length := ⟨_, rfl⟩
  obtain ⟨bs, hbs⟩ : ∃ n, n = s.bays := ⟨_, rfl⟩
  have HF := Lib.hid (show ∀ wy, Below w.heap.size w wy → Calls Try.prog 11 #[.slice a n cap] wy (RetAS wy) from fun wy hy => by
    rw [hn]
    exact few_any l a cap wy (hT.later hy) hl hS40)
  have HP := Lib.hid (show ∀ wy, Below w.heap.size w wy → q ≤ 20 → Calls Try.prog 12 #[.slice a n cap, .agg #[.slice sa q sc, .int .i64 bs]] wy (PlanTo l s wy) from fun wy hy h20 => by
    rw [hn, hq, hbs]
    exact plan_any l a cap s sa sc wy (hT.later hy) hl hS40 (hI.later hy) (by omega))
  have HC := Lib.hid (show ∀ wy, Below w.heap.size w wy → q ≤ 20 → ∀ (st : List Int) (ia : Option Addr) (ic m : Nat), Ints wy ia st → m = st.length → m < 9223372036854775807 → Calls Try.prog 17 #[.slice a n cap, .agg #[.slice sa q sc, .int .i64 bs], .slice ia m ic] wy (RetB (.bool (chkB l s st)) wy) from fun wy hy h20 st ia ic m hJ hm hs2 => by
    subst hm
    rw [hn, hq, hbs]
    exact check_any l a cap s sa sc st ia ic wy (hT.later hy) hl hS40 (hI.later hy) (by omega) hJ hs2)
  have HT := Lib.hid hT
  have HI := Lib.hid hI
  have HN := Lib.hid hn
  have HQ := Lib.hid hq
  have HBS := Lib.hid hbs
  have HS := Lib.hid hS40
  have HL := Lib.hid hl
  unfold shV
  rw [← hn, ← hq, ← hbs]
  clear hT hl hS hS40 hI hs hn hq hbs
  go_enter Try.func7, Try.ntmps7
  go_upto_region 1 with fail
  obtain ⟨wX, P, hP, hbX, hBX, hwX⟩ : ∃ wX P, P = w.heap.size ∧ Below w.heap.size w wX ∧ BoxAt wX P [.slice sa q sc, .int .i64 bs] ∧ wX = w.alloc (.cells #[.slice sa q sc, .int .i64 bs] 25) := ⟨_, _, rfl, (Below.refl _ _).alloc (Nat.le_refl _) _, BoxAt.new w _ _, rfl⟩
  rw [← hwX, ← hP]
  have HBX := Lib.hid hbX
  have HX := Lib.hid hBX
  clear hP hbX hBX hwX
  go_wp2_with fail
  refine Calls.mono (head_any _) ?_
  rintro e w1 ⟨rfl, hb1⟩
  have HB1 := Lib.hid (HBX.out.trans (hb1.mono HBX.out.size))
  have HX1 := Lib.hid (HX.out.later hb1)
  have c0 := (HX1.out 0 _ rfl).1
  have c1 := (HX1.out 1 _ rfl).1
  clear hb1 HBX HX
  go_wp2_with fail
  refine Calls.mono (HF.out w1 HB1.out) ?_
  rintro e w2 ⟨b, rfl, rfl⟩
  cases b
  case false =>
    go_wp2_with fail
    go_ret
    exact retB rfl HB1.out
  by_cases hq20 : (20 : Int) < (q : Int)
  · go_wp2_with fail
    go_ret
    exact retB rfl HB1.out
  have HQ20 := Lib.hid (show q ≤ 20 from by omega)
  by_cases h45 : (45 : Int) < (m : Int)
  · go_wp2_with fail
    go_ret
    exact retB rfl HB1.out
  have hcc := HC.out w1 HB1.out HQ20.out st ia ic m (HJ.out.later HB1.out) HM.out (by omega)
  obtain ⟨v, hv⟩ : ∃ v, v = chkB l s st := ⟨_, rfl⟩
  rw [← hv] at hcc
  have HCC := Lib.hid hcc
  have HVE := Lib.hid hv
  clear hcc hv
  cases v
  case false =>
    go_wp2_with fail
    refine Calls.mono HCC.out ?_
    rintro e w2 ⟨rfl, hb2⟩
    have HB2 := Lib.hid (HB1.out.trans (hb2.mono HB1.out.size))
    clear hb2 c0 c1
    go_wp2_with fail
    go_ret
    exact retB rfl HB2.out
  have hk : chkP l s st := Classical.byContradiction fun hn => by
    have h := HVE.out
    rw [chkB_no hn] at h
    cases h
  have hmn : m = n := by rw [HM.out, HN.out]; exact hk.2.2.1.1
  subst hmn
  have h40 : m ≤ 40 := by rw [HN.out]; exact hk.1.1
  have HK := Lib.hid hk
  clear hk
  by_cases hz : m = 0
  · have hz' : ((m : Int) == 0) = true := by simp [hz]
    clear hz
    go_wp2_with fail
    refine Calls.mono HCC.out ?_
    rintro e w2 ⟨rfl, hb2⟩
    have HB2 := Lib.hid (HB1.out.trans (hb2.mono HB1.out.size))
    clear hb2 c0 c1
    go_wp2_with fail
    go_ret
    exact retB rfl HB2.out
  have hz' : ((m : Int) == 0) = false := beq_eq_false_iff_ne.2 (by omega)
  obtain ⟨n, hnm⟩ : ∃ n, m = n + 1 := ⟨m - 1, by omega⟩
  have HNM := Lib.hid hnm
  clear hnm
  go_wp2_with fail
  refine Calls.mono HCC.out ?_
  rintro e w2 ⟨rfl, hb2⟩
  have HB2 := Lib.hid (HB1.out.trans (hb2.mono HB1.out.size))
  have HX2 := Lib.hid (HX1.out.later hb2)
  clear hb2 c0 c1
  have hwn : IntKind.i64.wrap ((m : Int) - 1) = (n : Int) := by rw [IntWalk.i64_in _ (by omega)]; have := HNM.out; omega
  clear HC HP HF HCC HVE
  go_upto_region 6 with fail
  clear hwn hz hz'
  go_loopg [9] (n + 1) (fun gk v9 wr => ∃ i : Nat, i ≤ n ∧ gk + i = n + 1 ∧ v9 = .int .i64 i ∧ w2 = wr ∧ ∀ i', i' < i → ∀ r, r < (tg l i').after.length → ig (tg l i').after r ≠ (n : Int))
  case atStart => exact ⟨0, by omega, by omega, rfl, rfl, fun i' hi' => absurd hi' (by omega)⟩
  case round =>
    obtain ⟨i, hi, hgi, rfl, rfl, hall⟩ := hrel
    have HALL := Lib.hid hall
    clear hall
    by_cases hlt : i < n
    · have hiL : i < l.length := by rw [← HN.out, HNM.out]; omega
      obtain ⟨tb, tf, aa, ac, rfl, b0, b1, b2, b3, hAI⟩ := (HT.out.later HB2.out) i hiL
      have htk := HK.out.1.2 i hiL
      have hal := after_len HK.out.1 hiL
      obtain ⟨t, ht⟩ : ∃ t, t = tg l i := ⟨_, rfl⟩
      rw [← ht] at b3 hAI htk hal
      have HTE := Lib.hid ht
      have HAI := Lib.hid hAI
      have HTK := Lib.hid htk
      have n1 : (i : Int) < (m : Int) := by have := HNM.out; omega
      have n0 : (0 : Int) ≤ (i : Int) := by omega
      have HGO := Lib.hid (show n - i < gk from by omega)
      clear ht hAI htk hiL b0 b1 b2 hgi
      go_upto_region 9 with fail
      go_loopg [10] (t.after.length + 1) (fun gk v10 wq => ∃ k : Nat, k ≤ t.after.length ∧ gk + k = t.after.length + 1 ∧ v10 = .int .i64 k ∧ w2 = wq ∧ ∀ r, r < k → ig t.after r ≠ (n : Int))
      case atStart => exact ⟨0, by omega, by omega, rfl, rfl, fun r hr => absurd hr (by omega)⟩
      case round =>
        obtain ⟨k, hk, hgk, rfl, rfl, hall2⟩ := hrel
        have HALL2 := Lib.hid hall2
        clear hall2
        by_cases hlt2 : k < t.after.length
        · obtain ⟨eb, eo, rfl, fe⟩ := HAI.out.fam (by omega)
          have ce := fe k hlt2
          obtain ⟨z, hz⟩ : ∃ z, z = ig t.after k := ⟨_, rfl⟩
          rw [← hz] at ce
          have k1 : (k : Int) < (t.after.length : Int) := by omega
          have k0 : (0 : Int) ≤ (k : Int) := by omega
          by_cases he : z = (n : Int)
          · have he' : (z == (n : Int)) = true := by simp [he]
            clear fe hz he
            go_wp2_with fail
            go_ret
            exact retB rfl HB2.out
          · have he' : (z == (n : Int)) = false := beq_eq_false_iff_ne.2 he
            have HNE := Lib.hid (show ig t.after k ≠ (n : Int) from by rw [← hz]; exact he)
            clear fe hz he
            go_wp2_with fail
            go_roundg (gk - 1)
            case measure => omega
            case rel => exact ⟨k + 1, by omega, by omega, by go_num, rfl, fun r hr => by
              rcases Nat.lt_succ_iff_lt_or_eq.1 hr with h | h
              · exact HALL2.out r h
              · subst h; exact HNE.out⟩
        · obtain rfl : k = t.after.length := by omega
          clear hlt2
          go_wp2_with fail
          go_roundg (n - i)
          case measure => exact HGO.out
          case rel => exact ⟨i + 1, by omega, by omega, by go_num, rfl, fun i' hi' => by
            rcases Nat.lt_succ_iff_lt_or_eq.1 hi' with h | h
            · exact HALL.out i' h
            · subst h; rw [← HTE.out]; exact HALL2.out⟩
    · obtain rfl : i = n := by omega
      have hok := fewer HK.out (by rw [← HN.out, HNM.out]) HALL.out
      have hkl : i ≤ l.length := by rw [← HN.out, HNM.out]; omega
      have hkm : i ≤ st.length := by rw [← HM.out, HNM.out]; omega
      have HCF := Lib.hid (show ∀ wy, Below w2.heap.size w2 wy → Calls Try.prog 17 #[.slice a i cap, .agg #[.slice sa q sc, .int .i64 bs], .slice ia i ic] wy (RetB (.bool true) wy) from fun wy hy => by
        have hyw := HB2.out.trans (hy.mono HB2.out.size)
        have h := HCK.out wy (l.take i) (st.take i) i hyw (by rw [List.length_take]; omega) (by rw [List.length_take]; omega) (by have := HNM.out; omega) (fun j hj => by
          rw [tg_take hj]
          exact HS.out (by rw [← HN.out]; exact h40) j (by omega)) (tasks_take (HT.out.later hyw) i hkl) (ints_take (HJ.out.later hyw) i hkm) (by rw [← HQ.out]; exact HQ20.out)
        rw [chkB_yes hok, ← HQ.out, ← HBS.out] at h
        exact h)
      obtain ⟨z1, z2, z3, z4⟩ := HSZ.out
      have hic1 : i ≤ cap := by omega
      have hic2 : i ≤ ic := by omega
      have p0 := (HX2.out 0 _ rfl).1
      have p1 := (HX2.out 1 _ rfl).1
      have hS : ∀ wy : World, Below w2.heap.size w2 wy → wy.cell? ⟨P, 0, none⟩ = some (.slice sa q sc) ∧ wy.cell? ⟨P, 1, none⟩ = some (.int .i64 bs) := fun wy hy => ⟨cell_later hy p0, cell_later hy p1⟩
      clear hok z1 z3 hkl hkm p0 p1 hlt
      go_upto_region 13 with fail
      refine wp_flow_s [] [] (by kernel_rfl) (by kernel_rfl) (by kernel_rfl) ?_
      repeat (first | ((with_reducible refine Flow.pure hS StayG.nil (v := ?_) ?_ ?_ ?_ ?_); rotate_left 1; (focus kernel_rfl); (focus (intro _; rfl)); (focus (intro β wx hSw; (try dsimp only at hSw); go_simp; (try with_reducible rfl); done)); (try simp only [Act.put, List.setIfInBounds_toArray, List.set_cons_zero, List.set_cons_succ, Nat.reduceAdd])) | ((with_reducible refine Flow.skip StayG.nil ?_ ?_ ?_); (focus kernel_rfl); (focus (intro _; rfl)); (try simp only [Act.put, List.setIfInBounds_toArray, List.set_cons_zero, List.set_cons_succ, Nat.reduceAdd])) | ((with_reducible refine Flow.call hS StayG.nil (v := ?_) ?_ ?_ ?_ ?_); rotate_left 1; (focus kernel_rfl); (focus (intro _; rfl)); (focus (intro β L wx hI hat hSw K' hK; (try dsimp only at hSw); go_simp; go_at_call 17; refine Calls.mono (HCF.out wx hI.below) ?_; rintro e w' ⟨rfl, hb'⟩; exact hK.out _ hb')); (try simp only [Act.put, List.setIfInBounds_toArray, List.set_cons_zero, List.set_cons_succ, Nat.reduceAdd])))
      ((with_reducible refine Flow.stop ?_); dsimp only; intro β w12 hI12)
      have HB12 := Lib.hid (HB2.out.trans (hI12.below.mono HB2.out.size))
      clear hS hI12
      go_wp2_with fail
      go_ret
      exact retB rfl HB12.out
end ShopFewer
namespace ShopFewer
set_option maxRecDepth 100000 in
theorem entry (H : Type) (enc : TypeId × Value → H) (W : World) (base : Nat) (args : Array Value) (ds : List (DataW H)) (p : List MemPlace)
    (hval : ∀ (j : Nat) t v, Try.f7.params[j]? = some t → args[j]? = some v → Value.okWide Try.prog W .any base t v)
    (hA : DataW.TrodAll enc Try.prog W 0 (fun _ => true) true Try.f7.params.toList args.toList ds p) :
    Calls Try.prog 7 args W (RetB (.bool true) W) := by
  rw [Try.params7] at hA hval
  obtain ⟨v0, vs0, d0, ds0, p0, q0, hargs, rfl, rfl, h0, r0⟩ := trodAll_cons hA
  obtain ⟨v1, vs1, d1, ds1, p1, q1, rfl, rfl, rfl, h1, r1⟩ := trodAll_cons r0
  obtain ⟨v2, vs2, d2, ds2, p2, q2, rfl, rfl, rfl, h2, r2⟩ := trodAll_cons r1
  obtain ⟨rfl, rfl, rfl⟩ := trodAll_nil r2
  obtain rfl : args = #[v0, v1, v2] := by cases args; simp_all
  obtain ⟨la, lc, l, rfl, lT, ll, ls, lk, lm⟩ := open_tasksc (hval 0 22 v0 rfl rfl) h0
  obtain ⟨s, sa, sc, rfl, sI, sl⟩ := open_shop (hval 1 25 v1 rfl rfl) h1
  obtain ⟨ta, tc, t, rfl, tI, tl, tk, tm⟩ := open_intsc_at (hval 2 23 v2 rfl rfl) h2
  exact walk W la lc l lT ll ls lk lm s sa sc sI sl ta tc t tI tl tk tm
end ShopFewer
/-! The step from the walk to the row of ShopFewer. -/
namespace ShopFewer
set_option maxRecDepth 100000 in
theorem lifted (os : Os) (started : os.Started) (H : Type) (enc : TypeId × Value → H) :
    ReturnsInHanded {} Try.checked os 7 .any (Rows.shopFewerSpec.pre6 enc Try.prog Try.f7 Rows.shopFewerRow.domain false) (Rows.shopFewerSpec.post enc Try.prog Try.f7 false true false false) := by
  refine returnsInHanded_of_change (C := Try.checked) own started (by kernel_rfl) Try.func7
    (ChangeSpec.witness6 (enc := enc) (C := Try.checked) false ⟨#[], #[.slice none 0 0, .agg #[.slice none 0 0, .int .i64 0], .slice none 0 0], []⟩ 8 (by kernel_rfl) (by kernel_rfl) (by kernel_rfl) (by kernel_rfl)) ?_
  intro W base args ds gs before hval0 hW hcnd _
  have hval : ∀ (j : Nat) t v, Try.f7.params[j]? = some t → args[j]? = some v → Value.okWide Try.prog W .any base t v := hval0
  have hW' := hW
  obtain ⟨p, q, hA0, hV, rfl, hfz, hnd⟩ := hW
  have hA : DataW.TrodAll enc Try.prog W 0 (fun _ => true) true Try.f7.params.toList args.toList ds p := hA0
  obtain ⟨rfl, rfl⟩ := trodVars_none hV
  have hlen := trodAll_len _ _ _ _ hA
  obtain ⟨d0, d1, d2, rfl⟩ : ∃ d0 d1 d2, ds = [d0, d1, d2] := by
    rw [Try.params7] at hlen
    exact list3 hlen
  refine (entry H enc W base args [d0, d1, d2] p hval hA).mono fun e W' ⟨he, bel⟩ => ?_
  subst he
  exact ⟨_, rfl, _, _, _, [], _, [], hW', trodAll_mk1 (shut_bool Try.underlying4 _), readback laidOut _ _ _ _ (by rw [Try.params7]; exact of_decide_eq_true (by kernel_rfl)) hA bel, rfl, bel.frame _, fun h => by cases h⟩

theorem over : Rows.shopFewerRow.holds Try.pinned (OpenSpec.ofChange Rows.shopFewerSpec) :=
  OpenClaim.holds_of_wide 7 Try.f7 rfl rfl rfl rfl rfl rfl rfl ⟨rfl, rfl, rfl, rfl, rfl⟩ rfl rfl rfl rfl rfl (by kernel_rfl) Try.func7 (by kernel_rfl)
    (of_decide_eq_true (by kernel_rfl)) (by unfold Func.isWrapper; first | (rw [if_pos (by decide +kernel)]; kernel_rfl) | (rw [if_neg (by decide +kernel)]; exact ⟨rfl, rfl⟩))
    (fun os started H enc _ => lifted os started H enc)

/-- THE STATEMENT -/
theorem proved : Rows.ShopFewerSaid := over
end ShopFewer
#print axioms ShopFewer.proved
end Go.Proofs.Ytoblmecgnpoogaa
