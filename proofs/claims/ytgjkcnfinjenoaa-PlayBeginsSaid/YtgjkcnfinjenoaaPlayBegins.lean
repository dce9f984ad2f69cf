



/- For every game, plan, allowed failures and turn: the failures that are the same before the turn, and none from there on, are allowed; where the plan gets stuck against neither, what it loses differs by at most the number of the turns from there on (few departures, vehicles and positions, else nothing is said). -/
import Derived.Test.YtgjkcnfinjenoaaPM4
import Derived.Test.YtgjkcnfinjenoaaLift
namespace Go.Proofs.Ytgjkcnfinjenoaa
open Go.ChangeShapes Go.WideShapes Go.ChangeAt Go.RowKit Go.Joins
namespace PlayBegins
section
variable {H : Type} {enc : TypeId × Value → H} {w : World} {held : Bool}
set_option maxRecDepth 100000 in
theorem open_u8 {b0 : Nat} {r : Reach} {v : Value} {d : DataW H} {p : List MemPlace} (hv : Value.okWide Try.prog w r b0 5 v) (h : DataW.Trod enc Try.prog w 0 (fun _ => true) held 5 v d p) :
    ∃ n : Int, v = .int .u8 n ∧ 0 ≤ n ∧ n < 256 := by
  obtain ⟨n, rfl, _, _, hw⟩ := open_int Try.underlying5 hv h
  have h1 := Bool.and_eq_true_iff.1 hw
  have h2 : 0 ≤ n := of_decide_eq_true h1.1
  have h3 : n ≤ 255 := of_decide_eq_true h1.2
  exact ⟨n, rfl, h2, by omega⟩
end
theorem flatI_set (l : List Int) (q : Nat) (x : Int) : (l.flatMap EI.cf).set q (.int .i64 x) = (l.set q x).flatMap EI.cf := by
  induction l generalizing q with
  | nil => rfl
  | cons a l ih =>
    cases q with
    | zero => rfl
    | succ q =>
      show (Value.int .i64 a :: l.flatMap EI.cf).set (q + 1) _ = Value.int .i64 a :: (l.set q x).flatMap EI.cf
      rw [List.set_cons_succ, ih]
theorem own_set {w : World} {B g n cap : Nat} {l : List Int} (h : EI.Own w B (.slice (some ⟨g, 0, none⟩) n cap) l) (q : Nat) (x : Int) : EI.Own (w.setCell ⟨g, q, none⟩ (.int .i64 x)) B (.slice (some ⟨g, 0, none⟩) n cap) (l.set q x) := by
  obtain ⟨a, c, e, _⟩ := h.at
  cases e
  have h1 := World.ownsRow.stored h q (.int .i64 x)
  have h2 := h1.1
  unfold El.Own
  rw [flatI_set] at h2
  rw [List.length_set]
  exact h2
theorem calm_of {F L : List Int} {t : Nat} (hl : L.length = F.length) (ht : t ≤ F.length) (h : ∀ j, j < F.length → ig L j = if t ≤ j then -1 else ig F j) : L = calmF F t := by
  show L = F.take t ++ List.replicate (F.length - t) (-1)
  refine List.ext_getElem (by simp; omega) fun j h1 h2 => ?_
  have h3 := h j (by omega)
  rw [ig_lt h1] at h3
  rw [h3]
  by_cases hj : t ≤ j
  · rw [if_pos hj, List.getElem_append_right (by rw [List.length_take]; omega)]
    simp
  · rw [if_neg hj, List.getElem_append_left (by rw [List.length_take]; omega), ig_lt (by omega)]
    simp
set_option maxRecDepth 100000 in
set_option maxHeartbeats 8000000 in
theorem all (raw : Int) (hra : 0 ≤ raw ∧ raw < 256) (g : Gm) (sa da : Option Addr) (sc dc : Nat) (l : List PA) (a : Option Addr) (c : Nat) (F : List Int) (fa : Option Addr) (fc : Nat) (w : World) (hG : GmAt w g sa da) (hB : GmBig g) (hL : LaP w a l) (hI : InP l) (hll : l.length < 9223372036854775808) (hFi : Ints w fa F) (hFl : F.length < 9223372036854775808) (hfc : F.length ≤ fc) : Calls Try.prog 6 #[gmV g sa sc da dc, .slice a l.length c, .slice fa F.length fc, .int .u8 raw] w (RetB (.bool true) w) := by
  have hwo := fun (h : FewP g l) (wy : World) (hy : Below w.heap.size w wy) => worst_any g sa da sc dc l a c wy (hG.later hy) h.few (hL.later hy) hI (by have := h.n; omega)
  have hlo := fun (h : FewP g l) (E : List Int) (ea : Option Addr) (ec : Nat) (wy : World) (hy : Below w.heap.size w wy) (hE : Ints wy ea E) (hEl : E.length ≤ 1000) => lost_any g sa da sc dc l a c E ea ec wy (hG.later hy) h.few (hL.later hy) hI (by have := h.n; omega) hE hEl
  simp only [lostV_eq] at hlo
  have hal := fun (h : VG g) (h20 : F.length ≤ 20) (wy : World) (hy : Below w.heap.size w wy) => allowed_any g sa da sc dc F fa fc wy (hG.later hy) h.1 (hFi.later hy) (by omega) hfc
  have HWO := Lib.hid hwo
  have HLO := Lib.hid hlo
  have HAL := Lib.hid hal
  clear hwo hlo hal
  have hfe := fun (wy : World) (hy : Below w.heap.size w wy) => fewp_any g sa da sc dc l a c wy (hG.later hy) (hL.later hy) hll hB.d
  have HFE := Lib.hid hfe
  have HG := Lib.hid hG
  have HL := Lib.hid hL
  have HI := Lib.hid hI
  have HFI := Lib.hid hFi
  have HFC := Lib.hid hfc
  clear hG hB hL hI hFi hfc hfe
  go_enter Try.func6, Try.ntmps6
  go_wp2_with fail
  refine calls_named ?_
  intro w0 hw0
  obtain ⟨hbx, -, hx, -⟩ := alloc1 w [.slice sa g.starts.length sc, .slice da g.deps.length dc, .int .i64 g.budget] 25 w0 hw0
  have HX := Lib.hid hx
  have HBX := Lib.hid hbx
  clear hw0 hx hbx
  refine Calls.mono (headp_any w0) ?_
  rintro e w1 ⟨rfl, hb1⟩
  have HB1 := Lib.hid (HBX.out.trans (hb1.mono HBX.out.size))
  have hx1 := HX.out.later hb1
  have HX1 := Lib.hid hx1
  have c0 := (hx1 0 _ rfl).1
  have c1 := (hx1 1 _ rfl).1
  have c2 := (hx1 2 _ rfl).1
  clear hb1 hx1
  go_wp2_with fail
  refine Calls.mono (HFE.out w1 HB1.out) ?_
  rintro e w2 ⟨hb2, hcase⟩
  have HB2 := Lib.hid (HB1.out.trans (hb2.mono HB1.out.size))
  have hx2 := HX1.out.later hb2
  have HX2 := Lib.hid hx2
  clear c0 c1 c2
  have c0 := (hx2 0 _ rfl).1
  have c1 := (hx2 1 _ rfl).1
  have c2 := (hx2 2 _ rfl).1
  clear hb2 hx2
  rcases hcase with rfl | ⟨rfl, hfew⟩
  · go_wp2_with fail
    go_ret
    exact retB rfl HB2.out
  have HFP := Lib.hid hfew
  clear hfew
  rcases Nat.lt_or_ge 20 F.length with h20 | h20
  · have e20 : decide ((20 : Int) < (F.length : Int)) = true := decide_eq_true (by omega)
    go_wp2_with fail
    go_ret
    exact retB rfl HB2.out
  have e20 : decide ((20 : Int) < (F.length : Int)) = false := decide_eq_false (by omega)
  obtain ⟨n, hn⟩ : ∃ n, n = F.length := ⟨_, rfl⟩
  have hloF := HLO.out HFP.out F
  rw [← hn] at h20 e20 hloF
  rw [← hn]
  have HLOF := Lib.hid hloF
  have HN := Lib.hid hn
  obtain ⟨t, ht, htn⟩ : ∃ t : Nat, raw.tmod ((n : Int) + 1) = (t : Int) ∧ t < n + 1 := by
    have h1 := Int.tmod_nonneg ((n : Int) + 1) hra.1
    have h2 := Int.tmod_lt_of_pos raw (show (0 : Int) < (n : Int) + 1 by omega)
    exact ⟨(raw.tmod ((n : Int) + 1)).toNat, by omega, by omega⟩
  have hw8 : IntKind.i64.wrap raw = raw := IntWalk.i64_in _ (by omega)
  have hw9 : IntKind.i64.wrap ((n : Int) + 1) = (n : Int) + 1 := IntWalk.i64_in _ (by omega)
  have hw10 : IntKind.i64.wrap (t : Int) = t := IntWalk.i64_in _ (by omega)
  have hz : ((n : Int) + 1 == 0) = false := by simp; omega
  have hz2 : ¬ (n : Int) + 1 = 0 := by omega
  clear hn hloF
  go_upto_region 5 with fail
  have hnil := El.Own.lit (E := EI) w2 w2.heap.size (Nat.le_refl _) [] (by simp) #[] rfl
  have hEm : Below w2.heap.size w2 (w2.alloc (.cells #[] 3)) := (Below.refl _ _).alloc (Nat.le_refl _) _
  obtain ⟨lv, w5, hr, ho, hg, hnn⟩ := El.app (E := EI) _ w2.heap.size _ [] F hnil fa fc ((Ints.el (HFI.out.later HB2.out)).later hEm) (by simp; have := HN.out; omega) (by simp) 22
  rw [← HN.out] at hr
  have ho' : EI.Own w5 w2.heap.size lv F := by simpa using ho
  have hb5 : Below w2.heap.size w2 w5 := hEm.grown hg hEm.size (fun b hb => (hnil.lt b hb).1)
  have HR := Lib.hid hr
  have HO5 := Lib.hid ho'
  have HB5 := Lib.hid (HB2.out.trans (hb5.mono HB2.out.size))
  have HBL5 := Lib.hid hb5.size
  have hx5 := HX2.out.later hb5
  have HX5 := Lib.hid hx5
  have HLW := Lib.hid (show w.heap.size < w2.heap.size from HX2.out.lt)
  clear hnil hEm hr ho hg hnn ho' hb5 hx5 c0 c1 c2
  go_upto_region 6 with (at_builtin; go_loud (refine wpList_app_eq rfl _ _ _ rfl _ _ rfl rfl HR.out ?_))
  obtain ⟨la, lc, hlv, -, -, -, -⟩ := HO5.out.at
  rw [← HN.out] at hlv
  subst hlv
  have HTN := Lib.hid htn
  clear hw8 hw9 hw10 ht hz hz2 htn
  go_wp2_with fail
  go_loopg [12] (n + 1) (fun gk v12 wr => ∃ (i : Nat) (L : List Int), t ≤ i ∧ i ≤ n ∧ gk + i = n + 1 + t ∧ v12 = .int .i64 i ∧ L.length = n ∧ (∀ j, j < n → ig L j = if t ≤ j ∧ j < i then -1 else ig F j) ∧ EI.Own wr w2.heap.size (.slice la n lc) L ∧ Chg (fun k => (Value.slice la n lc).ownBlock = some k) w5 wr)
  case atStart => exact ⟨t, F, Nat.le_refl _, by have := HTN.out; omega, by have := HTN.out; omega, rfl, HN.out.symm, fun j _ => by rw [if_neg (by omega)], HO5.out, Chg.refl _ _⟩
  case round =>
    obtain ⟨i, L, hti, hi, hgi, rfl, hLl, hLj, hown, hch⟩ := hrel
    obtain ⟨wq, hwq⟩ : ∃ wq, wq = wr := ⟨_, rfl⟩
    subst hwq
    by_cases hlt : i < n
    · obtain ⟨la', lc', hlv, -, -, hat, hcase⟩ := hown.at
      obtain ⟨rfl, -, rfl⟩ := Value.slice.inj hlv
      have hlb : ∃ gb, la = some ⟨gb, 0, none⟩ := by
        rcases hcase with ⟨_, _, e⟩ | ⟨gb, e, _⟩
        · rw [e] at hLl; simp at hLl; omega
        · exact ⟨gb, e⟩
      obtain ⟨gb, rfl⟩ := hlb
      obtain ⟨_, _, e2, cl⟩ := hat.ints i (by omega)
      cases e2
      rw [Nat.zero_add] at cl
      have clf : wq.frozen? ⟨gb, i, none⟩ = false := by
        obtain ⟨cur, hcur⟩ := hown.ty (g := gb) rfl
        simp [World.frozen?, hcur]
      have hnx : ∀ j, j < L.length → ig (L.set i (-1)) j = if t ≤ j ∧ j < i + 1 then -1 else ig F j := fun j hj => by
        rw [ig_set]
        by_cases e : i = j
        · rw [if_pos ⟨e, by omega⟩, if_pos ⟨by omega, by omega⟩]
        · rw [if_neg (fun h => e h.1), hLj j (by omega)]
          by_cases h2 : t ≤ j ∧ j < i
          · rw [if_pos h2, if_pos ⟨h2.1, by omega⟩]
          · rw [if_neg h2, if_neg (fun h => h2 ⟨h.1, by omega⟩)]
      have HNX := Lib.hid hnx
      have HLL := Lib.hid hLl
      have HOW := Lib.hid (own_set hown i (-1))
      have HCH := Lib.hid (Chg.setCell (S := fun k => (Value.slice (some ⟨gb, 0, none⟩) n lc).ownBlock = some k) hch (p := ⟨gb, i, none⟩) (fun _ => rfl) (.int .i64 (-1)))
      have HTI := Lib.hid (And.intro hti hlt)
      have i1 : (i : Int) < (n : Int) := by omega
      have i0 : (0 : Int) ≤ (i : Int) := by omega
      have wv : IntKind.i64.wrap ((i : Int) + 1) = (i : Int) + 1 := IntWalk.i64_in _ (by omega)
      clear hnx hown hch hLj hat hcase hlt hlv
      go_wp2_with fail
      go_roundg (n + t - i)
      case measure => have := HTI.out; omega
      case rel => exact ⟨i + 1, L.set i (-1), by have := HTI.out; omega, by have := HTI.out; omega, by have := HTI.out; omega, by go_num, by rw [List.length_set]; exact HLL.out, fun j hj => HNX.out j (by rw [HLL.out]; exact hj), HOW.out, HCH.out⟩
    · obtain rfl : n = i := by omega
      have hne : ∀ k, (Value.slice la n lc).ownBlock = some k → w2.heap.size ≤ k := fun k hk => (HO5.out.lt k hk).1
      have hlw := HLW.out
      have hbq : Below w.heap.size w wq := HB5.out.trans (hch.below HB5.out.size fun k hk => Nat.le_trans HB2.out.size (hne k hk))
      have hxq := HX5.out.chg hch (fun hk => by have := hne _ hk; omega) HX5.out.lt
      have hLc : L = calmF F t := calm_of (by rw [hLl, HN.out]) (by have := HN.out; have := HTN.out; omega) (fun j hj => by
        rw [hLj j (by have := HN.out; omega)]
        by_cases h : t ≤ j
        · rw [if_pos h, if_pos ⟨h, by have := HN.out; omega⟩]
        · rw [if_neg h, if_neg (fun h2 => h h2.1)])
      obtain ⟨la', lc', hlv, -, -, hat, -⟩ := hown.at
      obtain ⟨rfl, -, rfl⟩ := Value.slice.inj hlv
      have hfact := beg_fact g (l.map (·.1)) F (t := t) (by have := HN.out; have := HTN.out; omega)
      rw [← hLc, ← HN.out] at hfact
      obtain ⟨X, hX⟩ : ∃ X, X = lostN g (l.map (·.1)) F := ⟨_, rfl⟩
      obtain ⟨Y, hY⟩ : ∃ Y, Y = lostN g (l.map (·.1)) L := ⟨_, rfl⟩
      have hXi := lostN_in (g := g) (plan := l.map (·.1)) (F := F)
      have hYi := lostN_in (g := g) (plan := l.map (·.1)) (F := L)
      have hc1 := HLOF.out fa fc wq hbq (HFI.out.later hbq) (by omega)
      have hc2 := fun wy (hy : Below wq.heap.size wq wy) => HLO.out HFP.out L la lc wy (hbq.trans (hy.mono hbq.size)) (hat.ints.later hy) (by omega)
      rw [← hX] at hfact hXi hc1
      simp only [← hY, hLl] at hfact hYi hc2
      obtain ⟨x, f⟩ := X
      obtain ⟨y, f2⟩ := Y
      simp only at hXi hYi hc1 hc2
      have HC1 := Lib.hid hc1
      have HC2 := Lib.hid hc2
      have HFA := Lib.hid hfact
      have HBQ := Lib.hid hbq
      have HXQ := Lib.hid hxq
      obtain ⟨rs, hrs⟩ : ∃ r : Int, r = (n : Int) - t := ⟨_, rfl⟩
      have wr1 : IntKind.i64.wrap ((n : Int) - (t : Int)) = rs := by rw [hrs]; exact IntWalk.i64_in _ (by omega)
      have wx : IntKind.i64.wrap (x - y) = x - y := IntWalk.i64_in _ (by omega)
      have wy : IntKind.i64.wrap (y - x) = y - x := IntWalk.i64_in _ (by omega)
      have HRS := Lib.hid hrs
      have c0 := (hxq 0 _ rfl).1
      have c1 := (hxq 1 _ rfl).1
      have c2 := (hxq 2 _ rfl).1
      clear hne hlw hbq hxq hLc hlv hat hfact hX hY hc1 hc2 hrs hown hch hLj hlt hgi
      go_wp2_with fail
      refine Calls.mono HC1.out ?_
      rintro e w6 ⟨rfl, hb6⟩
      have HB6 := Lib.hid (HBQ.out.trans (hb6.mono HBQ.out.size))
      have hx6 := HXQ.out.later hb6
      have HX6 := Lib.hid hx6
      have hc7 := HC2.out w6 hb6
      have HC7 := Lib.hid hc7
      clear c0 c1 c2 hc7 hb6
      have c0 := (hx6 0 _ rfl).1
      have c1 := (hx6 1 _ rfl).1
      have c2 := (hx6 2 _ rfl).1
      clear hx6
      go_wp2_with fail
      refine Calls.mono HC7.out ?_
      rintro e w7 ⟨rfl, hb7⟩
      (have HB7 := Lib.hid (HB6.out.trans (hb7.mono HB6.out.size)); have hx7 := HX6.out.later hb7; have HX7 := Lib.hid hx7; clear c0 c1 c2; have c0 := (hx7 0 _ rfl).1; have c1 := (hx7 1 _ rfl).1; have c2 := (hx7 2 _ rfl).1; clear hb7 hx7)
      by_cases h1 : f = 1
      · subst h1
        go_wp2_with fail
        go_ret
        exact retB rfl HB7.out
      · have e1 : (f == (1 : Int)) = false := by simpa using h1
        have h2 : f2 ≠ 1 := HFA.out.arg h1
        have e2 : (f2 == (1 : Int)) = false := by simpa using h2
        by_cases h3 : f = 0
        · subst h3
          by_cases h4 : f2 = 0
          · subst h4
            obtain ⟨p1, p2⟩ := HFA.out.ok rfl rfl
            have p1' : x - y ≤ rs := by rw [HRS.out]; exact p1
            have p2' : y - x ≤ rs := by rw [HRS.out]; exact p2
            have q1 : decide (x - y ≤ rs) = true := decide_eq_true p1'
            have q2 : decide (y - x ≤ rs) = true := decide_eq_true p2'
            by_cases h5 : 0 < rs
            · have q3 : decide (0 < rs) = true := decide_eq_true h5
              clear h1 e1 h2 e2 p1 p2
              go_wp2_with fail
              go_ret
              exact retB rfl HB7.out
            · have q3 : decide (0 < rs) = false := decide_eq_false h5
              have hxy : x = y := by omega
              subst hxy
              clear h1 e1 h2 e2 p1 p2
              go_wp2_with fail
              go_ret
              exact retB rfl HB7.out
          · have e4 : (f2 == (0 : Int)) = false := by simpa using h4
            clear h1 e1
            go_wp2_with fail
            go_ret
            exact retB rfl HB7.out
        · have e3 : (f == (0 : Int)) = false := by simpa using h3
          go_wp2_with fail
          go_ret
          exact retB rfl HB7.out
theorem walk (w : World) (g : Gm) (sa : Option Addr) (sc : Nat) (da : Option Addr) (dc : Nat) (hG : GmAt w g sa da) (hB : GmBig g) (l : List PA) (a : Option Addr) (c : Nat) (hL : LaP w a l) (hI : InP l) (hll : l.length < 9223372036854775808)
    (fa : Option Addr) (fc : Nat) (F : List Int) (hFi : Ints w fa F) (hFl : F.length < 9223372036854775808) (hfc : F.length ≤ fc) (raw : Int) (hra : 0 ≤ raw ∧ raw < 256) : Calls Try.prog 6 #[gmV g sa sc da dc, .slice a l.length c, .slice fa F.length fc, .int .u8 raw] w (RetB (.bool true) w) :=
  all raw hra g sa da sc dc l a c F fa fc w hG hB hL hI hll hFi hFl hfc
end PlayBegins
namespace PlayBegins
set_option maxRecDepth 100000 in
theorem entry (H : Type) (enc : TypeId × Value → H) (W : World) (base : Nat) (args : Array Value) (ds : List (DataW H)) (p : List MemPlace)
    (hval : ∀ (j : Nat) t v, Try.f6.params[j]? = some t → args[j]? = some v → Value.okWide Try.prog W .any base t v)
    (hA : DataW.TrodAll enc Try.prog W 0 (fun _ => true) true Try.f6.params.toList args.toList ds p) :
    Calls Try.prog 6 args W (RetB (.bool true) W) := by
  rw [Try.params6] at hA hval
  obtain ⟨v0, vs0, d0, ds0, p0, q0, hargs, rfl, rfl, h0, r0⟩ := trodAll_cons hA
  obtain ⟨v1, vs1, d1, ds1, p1, q1, rfl, rfl, rfl, h1, r1⟩ := trodAll_cons r0
  obtain ⟨v2, vs2, d2, ds2, p2, q2, rfl, rfl, rfl, h2, r2⟩ := trodAll_cons r1
  obtain ⟨v3, vs3, d3, ds3, p3, q3, rfl, rfl, rfl, h3, r3⟩ := trodAll_cons r2
  obtain ⟨rfl, rfl, rfl⟩ := trodAll_nil r3
  obtain rfl : args = #[v0, v1, v2, v3] := by cases args; simp_all
  obtain ⟨g, ga, gc, gd, ge, rfl, gG, gB⟩ := open_game (hval 0 25 v0 rfl rfl) h0
  obtain ⟨plan, plana, planc, rfl, planL, planI, plann⟩ := open_plan (hval 1 26 v1 rfl rfl) h1
  obtain ⟨failsa, failsc, fails, rfl, failsI, failsl, failsk⟩ := open_ints_at (hval 2 22 v2 rfl rfl) h2
  obtain ⟨raw, rfl, rawo⟩ := open_u8 (hval 3 5 v3 rfl rfl) h3
  exact walk W g ga gc gd ge gG gB plan plana planc planL planI plann failsa failsc fails failsI failsl failsk raw rawo
end PlayBegins
/-! The step from the walk to the row of PlayBegins. -/
namespace PlayBegins
set_option maxRecDepth 100000 in
theorem lifted (os : Os) (started : os.Started) (H : Type) (enc : TypeId × Value → H) :
    ReturnsInHanded {} Try.checked os 6 .any (Rows.playBeginsSpec.pre6 enc Try.prog Try.f6 Rows.playBeginsRow.domain false) (Rows.playBeginsSpec.post enc Try.prog Try.f6 false true false false) := by
  refine returnsInHanded_of_change (C := Try.checked) own started (by kernel_rfl) Try.func6
    (ChangeSpec.witness6 (enc := enc) (C := Try.checked) false ⟨#[], #[.agg #[.slice none 0 0, .slice none 0 0, .int .i64 0], .slice none 0 0, .slice none 0 0, .int .u8 0], []⟩ 8 (by kernel_rfl) (by kernel_rfl) (by kernel_rfl) (by kernel_rfl)) ?_
  intro W base args ds gs before hval0 hW hcnd _
  have hval : ∀ (j : Nat) t v, Try.f6.params[j]? = some t → args[j]? = some v → Value.okWide Try.prog W .any base t v := hval0
  have hW' := hW
  obtain ⟨p, q, hA0, hV, rfl, hfz, hnd⟩ := hW
  have hA : DataW.TrodAll enc Try.prog W 0 (fun _ => true) true Try.f6.params.toList args.toList ds p := hA0
  obtain ⟨rfl, rfl⟩ := trodVars_none hV
  have hlen := trodAll_len _ _ _ _ hA
  obtain ⟨d0, d1, d2, d3, rfl⟩ : ∃ d0 d1 d2 d3, ds = [d0, d1, d2, d3] := by
    rw [Try.params6] at hlen
    exact list4 hlen
  refine (entry H enc W base args [d0, d1, d2, d3] p hval hA).mono fun e W' ⟨he, bel⟩ => ?_
  subst he
  exact ⟨_, rfl, _, _, _, [], _, [], hW', trodAll_mk1 (shut_bool Try.underlying4 _), readback laidOut _ _ _ _ (by rw [Try.params6]; exact of_decide_eq_true (by kernel_rfl)) hA bel, rfl, bel.frame _, fun h => by cases h⟩

theorem over : Rows.playBeginsRow.holds Try.pinned (OpenSpec.ofChange Rows.playBeginsSpec) :=
  OpenClaim.holds_of_wide 6 Try.f6 rfl rfl rfl rfl rfl rfl rfl ⟨rfl, rfl, rfl, rfl, rfl⟩ rfl rfl rfl rfl rfl (by kernel_rfl) Try.func6 (by kernel_rfl)
    (of_decide_eq_true (by kernel_rfl)) (by unfold Func.isWrapper; first | (rw [if_pos (by decide +kernel)]; kernel_rfl) | (rw [if_neg (by decide +kernel)]; exact ⟨rfl, rfl⟩))
    (fun os started H enc _ => lifted os started H enc)

/-- THE STATEMENT -/
theorem proved : Rows.PlayBeginsSaid := over
end PlayBegins
#print axioms PlayBegins.proved
end Go.Proofs.Ytgjkcnfinjenoaa
