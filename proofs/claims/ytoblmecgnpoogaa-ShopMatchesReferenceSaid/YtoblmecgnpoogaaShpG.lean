

/- Package shop: Check. -/
import Derived.Test.YtoblmecgnpoogaaShpF
namespace Go.Proofs.Ytoblmecgnpoogaa
open Go.RowKit

theorem grown_setCells : ∀ (vs : List Value) (n k : Nat) (w : World), w.grownBy (w.setCells n k vs) (some n)
  | [], _, _, w => World.grownBy.refl w _
  | v :: vs, n, k, w => by
    have h := grown_setCells vs n (k + 1) (w.setCell ⟨n, k, none⟩ v)
    refine ⟨h.os, h.tape, h.output, by rw [setCells_heap]; exact Nat.le_refl _, fun i hi hne => ?_⟩
    refine (h.block i (by rw [World.size_setCell]; exact hi) hne).trans ?_
    exact heap_setCell_other w ⟨n, k, none⟩ i v (fun e => hne (by simp [e]))
theorem good_mem {n : Nat} {l : List Int} (h : ∀ r, r < l.length → GoodAt n l r) {r : Nat} (hr : r < l.length) : ∃ m : Nat, ig l r = m ∧ m < n := by
  have h1 := good_in h hr
  exact ⟨(ig l r).toNat, by omega, by omega⟩
set_option maxRecDepth 100000 in
set_option maxHeartbeats 4000000 in
theorem check_any (l : List Tk) (a : Option Addr) (cap : Nat) (s : Sh) (sa : Option Addr) (sc : Nat) (st : List Int) (ia : Option Addr) (ic : Nat) (w : World) (hT : Tasks w a l) (hl : l.length < 9223372036854775808) (hS : l.length ≤ 40 → ∀ i, i < l.length → (tg l i).after.length < 9223372036854775808) (hI : Ints w sa s.staff) (hs : s.staff.length < 9223372036854775807) (hJ : Ints w ia st) (hs2 : st.length < 9223372036854775807) :
    Calls Try.prog 17 #[.slice a l.length cap, shV s sa sc, .slice ia st.length ic] w (RetB (.bool (chkB l s st)) w) := by
  have hmf : ∀ (fn : Fn) (first cap : Array Value) (w : World), (Instr.makeFunc fn first cap).run Try.prog w = .ok (.func fn first cap) w := fun _ _ _ _ => rfl
  obtain ⟨v, hv⟩ : ∃ v, v = vsB l s := ⟨_, rfl⟩
  obtain ⟨h, hh⟩ : ∃ h, h = hoB l st := ⟨_, rfl⟩
  obtain ⟨n, hn⟩ : ∃ n, n = l.length := ⟨_, rfl⟩
  obtain ⟨m, hm⟩ : ∃ n, n = st.length := ⟨_, rfl⟩
  obtain ⟨q, hq⟩ : ∃ n, n = s.staff.length := ⟨_, rfl⟩
  obtain ⟨bs, hbs⟩ : ∃ n, n = s.bays := ⟨_, rfl⟩
  obtain ⟨r, hr⟩ : ∃ r, r = chkB l s st := ⟨_, rfl⟩
  have HV := Lib.hid (show ∀ wy, Below w.heap.size w wy → Calls Try.prog 23 #[.slice a n cap, .agg #[.slice sa q sc, .int .i64 bs]] wy (RetB (.bool v) wy) from fun wy hy => by
    rw [hn, hv, hq, hbs]
    exact svalid_any l a cap s sa sc wy (hT.later hy) hl hS (hI.later hy) hs)
  have HH := Lib.hid (show ∀ wy, Below w.heap.size w wy → Calls Try.prog 39 #[.slice a n cap, .slice ia m ic] wy (RetB (.bool h) wy) from fun wy hy => by
    rw [hn, hm, hh]
    exact hoursOf_any l a cap st ia ic wy (hJ.later hy) hs2)
  have HFI := Lib.hid (show ∀ x wy, Below w.heap.size w wy → Calls Try.prog 28 #[ldV x, .agg #[.slice sa q sc, .int .i64 bs]] wy (RetB (.bool (fitsB x s)) wy) from fun x wy hy => by
    rw [hq, hbs]
    exact fits_any x s sa sc wy (hI.later hy))
  have HT := Lib.hid hT
  have HI := Lib.hid hI
  have HJ := Lib.hid hJ
  have HN := Lib.hid hn
  have HM := Lib.hid hm
  have HR := Lib.hid hr
  have HVE := Lib.hid hv
  have HHE := Lib.hid hh
  have HSA := Lib.hid hS
  unfold shV
  rw [← hn, ← hm, ← hq, ← hbs, ← hr]
  clear hv hh hT hl hS hI hs hJ hs2 hn hm hq hbs hr
  go_enter Try.func17, Try.ntmps17
  go_upto_region 1 with fail
  obtain ⟨wX, P3, P4, P5, hP, hbX, hB3, hB4, hB5, hwX⟩ : ∃ wX P3 P4 P5, (P3 = w.heap.size ∧ P4 = w.heap.size + 1 ∧ P5 = w.heap.size + 1 + 1) ∧ Below w.heap.size w wX ∧ BoxAt wX P3 [.slice a n cap] ∧ BoxAt wX P4 [.slice sa q sc, .int .i64 bs] ∧ BoxAt wX P5 [.slice ia m ic] ∧ wX = ((w.alloc (.cells #[.slice a n cap] 22)).alloc (.cells #[.slice sa q sc, .int .i64 bs] 25)).alloc (.cells #[.slice ia m ic] 23) := ⟨_, _, _, _, ⟨rfl, rfl, rfl⟩, (((Below.refl _ _).alloc (Nat.le_refl _) _).alloc (by simp) _).alloc (by simp; omega) _, ((BoxAt.new w _ _).alloc _).alloc _, by
    have h := (BoxAt.new (w.alloc (.cells #[.slice a n cap] 22)) [.slice sa q sc, .int .i64 bs] 25).alloc (.cells #[.slice ia m ic] 23)
    rw [World.size_alloc] at h
    exact h, by
    have h := BoxAt.new ((w.alloc (.cells #[.slice a n cap] 22)).alloc (.cells #[.slice sa q sc, .int .i64 bs] 25)) [.slice ia m ic] 23
    rw [World.size_alloc, World.size_alloc] at h
    exact h, rfl⟩
  rw [← hwX, ← hP.2.2, ← hP.2.1, ← hP.1]
  have hsX : wX.heap.size = w.heap.size + 3 := by rw [hwX]; simp
  have hP3 : P3 < wX.heap.size := by omega
  have hP4 : P4 < wX.heap.size := by omega
  have hP5 : P5 < wX.heap.size := by omega
  have HBX := Lib.hid hbX
  have HB3 := Lib.hid hB3
  have HB4 := Lib.hid hB4
  have HB5 := Lib.hid hB5
  have c3 := (hB3 0 _ rfl).1
  have c40 := (hB4 0 _ rfl).1
  have c41 := (hB4 1 _ rfl).1
  have c5 := (hB5 0 _ rfl).1
  clear hsX hP hbX hB3 hB4 hB5 hwX
  go_wp2_with fail
  refine Calls.mono (HV.out wX HBX.out) ?_
  rintro e w1 ⟨rfl, hb1⟩
  have HB1 := Lib.hid hb1
  have d3 := cell_later hb1 c3
  have d40 := cell_later hb1 c40
  have d41 := cell_later hb1 c41
  have d5 := cell_later hb1 c5
  clear hb1 c3 c40 c41 c5
  cases v
  · have HE := Lib.hid (show r = false from HR.out.trans (chkB_no fun hk => by
      have := (vsB_iff l s).2 ⟨hk.1, hk.2.1⟩
      rw [← HVE.out] at this
      cases this))
    go_wp2_with fail
    go_ret
    exact retB (vbool HE.out.symm) (HBX.out.trans (HB1.out.mono HBX.out.size))
  go_wp2_with fail
  refine Calls.mono (HH.out w1 (HBX.out.trans (HB1.out.mono HBX.out.size))) ?_
  rintro e w2 ⟨rfl, hb2⟩
  have HB2 := Lib.hid (HB1.out.trans (hb2.mono HB1.out.size))
  have c3 := cell_later hb2 d3
  have c40 := cell_later hb2 d40
  have c41 := cell_later hb2 d41
  have c5 := cell_later hb2 d5
  clear hb2 d3 d40 d41 d5 HB1
  cases h
  · have HE := Lib.hid (show r = false from HR.out.trans (chkB_no fun hk => by
      have := (hoB_iff l st).2 hk.2.2.1
      rw [← HHE.out] at this
      cases this))
    go_wp2_with fail
    go_ret
    exact retB (vbool HE.out.symm) (HBX.out.trans (HB2.out.mono HBX.out.size))
  have hvv := (vsB_iff l s).1 HVE.out.symm
  have hho := (hoB_iff l st).1 HHE.out.symm
  have HVT := Lib.hid hvv.1
  have HVS := Lib.hid hvv.2
  have HHO := Lib.hid hho
  have hn40 : n ≤ 40 := by rw [HN.out]; exact hvv.1.1
  have hmn : m = n := by rw [HM.out, HN.out]; exact hho.1
  subst hmn
  have HCK := Lib.hid (show (∀ i, i < m → goodAt l s st i) → r = true from fun hg => HR.out.trans (chkB_yes ⟨hvv.1, hvv.2, hho, fun i hi => hg i (by have := HN.out; omega)⟩))
  have HCN := Lib.hid (show ∀ i, i < m → ¬ goodAt l s st i → r = false from fun i hi hg => HR.out.trans (chkB_no fun hk => hg (hk.2.2.2 i (by have := HN.out; omega))))
  clear hvv hho
  go_wp2_with fail
  go_loopg [25] (m + 1) (fun g v25 wr => ∃ i : Nat, i ≤ m ∧ g + i = m + 1 ∧ v25 = .int .i64 i ∧ Below wX.heap.size wX wr ∧ ∀ j, j < i → goodAt l s st j)
  case atStart => exact ⟨0, by omega, by omega, rfl, HB2.out, fun j hj => absurd hj (by omega)⟩
  case round =>
    obtain ⟨i, hi, hgi, rfl, hbr, hall⟩ := hrel
    have HBR := Lib.hid hbr
    have HALL := Lib.hid hall
    clear hall
    by_cases hlt : i < m
    · have hiL : i < l.length := by have := HN.out; omega
      have hiS : i < st.length := by have := HM.out; omega
      have hbw := HBX.out.trans (hbr.mono HBX.out.size)
      obtain ⟨tb, to, aa, ac, rfl, b0, b1, b2, b3, hAI⟩ := (HT.out.later hbw) i hiL
      obtain ⟨ib, io, rfl, fi⟩ := (HJ.out.later hbw).fam (by omega)
      have ci := fi i hiS
      obtain ⟨t, ht⟩ : ∃ t, t = tg l i := ⟨_, rfl⟩
      rw [← ht] at b0 b1 b2 b3 hAI
      obtain ⟨hr', hhr⟩ : ∃ u, u = ig st i := ⟨_, rfl⟩
      rw [← hhr] at ci
      have HTE := Lib.hid ht
      have HHR := Lib.hid hhr
      have HAI := Lib.hid hAI
      have n1 : (i : Int) < (m : Int) := by omega
      have n0 : (0 : Int) ≤ (i : Int) := by omega
      have e3 := ((HB3.out.later hbr) 0 _ rfl).1
      have e40 := ((HB4.out.later hbr) 0 _ rfl).1
      have e41 := ((HB4.out.later hbr) 1 _ rfl).1
      have e5 := ((HB5.out.later hbr) 0 _ rfl).1
      have hzr := hbr.size
      have htb : tb < wr.heap.size := World.block_lt_of_cell? _ _ b0
      have hib : ib < wr.heap.size := World.block_lt_of_cell? _ _ ci
      have hP3r : P3 < wr.heap.size := by omega
      have hP4r : P4 < wr.heap.size := by omega
      have hP5r : P5 < wr.heap.size := by omega
      clear ht hhr hAI fi hbw hbr
      go_upto_region 7 with fail
      obtain ⟨w8, T8, P9, hTP, hb8, hBT, hB9, hw8⟩ : ∃ w8 T8 P9, (T8 = wr.heap.size ∧ P9 = wr.heap.size + 1) ∧ Below wr.heap.size wr w8 ∧ BoxAt w8 T8 [.int .i64 t.hours, .int .i64 t.skill, .bool t.bay, .slice aa t.after.length ac] ∧ BoxAt w8 P9 [.int .i64 hr'] ∧ w8 = (wr.alloc (.cells #[.int .i64 t.hours, .int .i64 t.skill, .bool t.bay, .slice aa t.after.length ac] 38)).alloc (.cells #[.int .i64 hr'] 3) := ⟨_, _, _, ⟨rfl, rfl⟩, ((Below.refl _ _).alloc (Nat.le_refl _) _).alloc (by simp) _, (BoxAt.new wr _ _).alloc _, by
        have h := BoxAt.new (wr.alloc (.cells #[.int .i64 t.hours, .int .i64 t.skill, .bool t.bay, .slice aa t.after.length ac] 38)) [.int .i64 hr'] 3
        rw [World.size_alloc] at h
        exact h, rfl⟩
      rw [← hw8, ← hTP.2, ← hTP.1]
      have hs8 : w8.heap.size = wr.heap.size + 2 := by rw [hw8]; simp
      have hP9 : P9 < w8.heap.size := by omega
      have HS8 := Lib.hid hs8
      have HTP := Lib.hid hTP
      have HB8 := Lib.hid (HBR.out.trans (hb8.mono HBR.out.size))
      have HB9 := Lib.hid hB9
      have t3 := (hBT 3 _ rfl).1
      have f3 := cell_later hb8 e3
      have f40 := cell_later hb8 e40
      have f41 := cell_later hb8 e41
      have f5 := cell_later hb8 e5
      have f9 := (hB9 0 _ rfl).1
      have HAI8 := Lib.hid (HAI.out.later hb8)
      obtain ⟨an, han⟩ : ∃ an, an = t.after.any (late l st hr') := ⟨_, rfl⟩
      have HAN := Lib.hid han
      have HCF := Lib.hid (show Calls Try.prog 29 #[.slice aa t.after.length ac, .func (.func 40) #[] #[.pointer (some ⟨P5, 0, none⟩), .pointer (some ⟨P3, 0, none⟩), .pointer (some ⟨P9, 0, none⟩)]] w8 (RetB (.bool an) w8) from by
        rw [han]
        have hT8 : Tasks w8 (some ⟨tb, to, none⟩) l := HT.out.later (HBX.out.trans (HB8.out.mono HBX.out.size))
        have hJ8 : Ints w8 (some ⟨ib, io, none⟩) st := HJ.out.later (HBX.out.trans (HB8.out.mono HBX.out.size))
        refine contains_check t.after (late l st hr') _ _ _ aa ac w8 HAI8.out (by have := after_len HVT.out hiL; rw [← HTE.out] at this; omega) (fun wy hy r hr2 => ?_)
        obtain ⟨k, hk1, hk2⟩ := good_mem (HVT.out.2 i hiL).2.2.2.2 (by rw [← HTE.out]; exact hr2)
        rw [← HTE.out] at hk1
        rw [hk1]
        exact check1_any l st hr' k (some ⟨tb, to, none⟩) (some ⟨ib, io, none⟩) cap ic P3 P5 P9 wy (hT8.later hy) (hJ8.later hy) HVT.out HHO.out hk2 (by rw [← HN.out]; exact cell_later hy f3) (by rw [← HM.out]; exact cell_later hy f5) (cell_later hy f9))
      clear hw8 hs8 hTP hb8 hBT hB9 e3 e40 e41 e5 b0 b1 b2 b3 ci han
      go_wp2_with fail
      refine Calls.mono HCF.out ?_
      rintro e w9 ⟨rfl, hb9⟩
      have HB9' := Lib.hid (HB8.out.trans (hb9.mono HB8.out.size))
      have g3 := cell_later hb9 f3
      have g40 := cell_later hb9 f40
      have g41 := cell_later hb9 f41
      have g5 := cell_later hb9 f5
      have g9 := cell_later hb9 f9
      have hz9 := hb9.size
      clear hb9 f3 f40 f41 f5 f9 t3
      cases an
      case true =>
        have HE := Lib.hid (HCN.out i hlt (fun hg => by
          have h1 := hg.1
          rw [← HTE.out, ← HHR.out, ← HAN.out] at h1
          cases h1))
        go_wp2_with fail
        go_ret
        exact retB (vbool HE.out.symm) (HBX.out.trans (HB9'.out.mono HBX.out.size))
      go_upto_region 10 with fail
      obtain ⟨w10, B, hB, hb10, hBB, hw10⟩ : ∃ w10 B, B = w9.heap.size ∧ Below w9.heap.size w9 w10 ∧ BoxAt w10 B (ldC (loadU l st hr' 0)) ∧ w10 = w9.alloc (.cells #[.int .i64 0, .int .i64 0, .int .i64 0, .int .i64 0, .int .i64 0, .int .i64 0, .int .i64 0, .int .i64 0, .int .i64 0] 49) := ⟨_, _, rfl, (Below.refl _ _).alloc (Nat.le_refl _) _, BoxAt.new w9 _ _, rfl⟩
      rw [← hw10, ← hB]
      have HB10 := Lib.hid (HB9'.out.trans (hb10.mono HB9'.out.size))
      have HBB := Lib.hid hBB
      have HBE := Lib.hid hB
      have hBl : B < w10.heap.size := by rw [hw10, World.size_alloc]; omega
      have k3 := cell_later hb10 g3
      have k40 := cell_later hb10 g40
      have k41 := cell_later hb10 g41
      have k5 := cell_later hb10 g5
      have k9 := cell_later hb10 g9
      have hP3B : ¬ P3 = B := by have := HS8.out; have := HTP.out; omega
      have hP4B : ¬ P4 = B := by have := HS8.out; have := HTP.out; omega
      have hP5B : ¬ P5 = B := by have := HS8.out; have := HTP.out; omega
      have hP9B : ¬ P9 = B := by have := HS8.out; have := HTP.out; omega
      have htbB : ¬ tb = B := by have := HS8.out; omega
      have hibB : ¬ ib = B := by have := HS8.out; omega
      have hz10 := hb10.size
      have HIJ := Lib.hid (show ∀ w', Chg (fun j => j = B) w10 w' → Below wX.heap.size wX w' from fun w' hc => HB10.out.trans (hc.below HB10.out.size fun j hj => by have := HB9'.out.size; omega))
      clear hw10 hB hb10 hBB g3 g40 g41 g5 g9
      go_wp2_with fail
      go_loopg [40] (m + 1) (fun g v40 wq => ∃ k : Nat, k ≤ m ∧ g + k = m + 1 ∧ v40 = .int .i64 k ∧ Chg (fun j => j = B) w10 wq ∧ BoxAt wq B (ldC (loadU l st hr' k)))
      case atStart => exact ⟨0, by omega, by omega, rfl, Chg.refl _ _, HBB.out⟩
      case round =>
        obtain ⟨k, hk, hgk, rfl, hch, hbb⟩ := hrel
        have HCH := Lib.hid hch
        have HBBK := Lib.hid hbb
        have m3 := hch.cell k3 hP3B
        have m40 := hch.cell k40 hP4B
        have m41 := hch.cell k41 hP4B
        have m5 := hch.cell k5 hP5B
        have m9 := hch.cell k9 hP9B
        have hzq := hch.size
        obtain ⟨x, hx⟩ : ∃ x, x = loadU l st hr' k := ⟨_, rfl⟩
        rw [← hx] at hbb
        have HX := Lib.hid hx
        have x0 := (hbb 0 _ rfl).1
        have x1 := (hbb 1 _ rfl).1
        have x2 := (hbb 2 _ rfl).1
        have x3 := (hbb 3 _ rfl).1
        have x4 := (hbb 4 _ rfl).1
        have x5 := (hbb 5 _ rfl).1
        have x6 := (hbb 6 _ rfl).1
        have x7 := (hbb 7 _ rfl).1
        have x8 := (hbb 8 _ rfl).1
        have HBX' := Lib.hid hbb
        clear hx hbb
        by_cases hlt2 : k < m
        · have hkL : k < l.length := by have := HN.out; omega
          have hkS : k < st.length := by have := HM.out; omega
          have hbq := HBX.out.trans ((HIJ.out wr hch).mono HBX.out.size)
          obtain ⟨ub, uo, ua, uc, hub, b0, b1, b2, b3, _⟩ := (HT.out.later hbq) k hkL
          simp only [Option.some.injEq, Addr.mk.injEq, and_true] at hub
          obtain ⟨rfl, rfl⟩ := hub
          obtain ⟨jb, jo, hjb, fi⟩ := (HJ.out.later hbq).fam (by omega)
          simp only [Option.some.injEq, Addr.mk.injEq, and_true] at hjb
          obtain ⟨rfl, rfl⟩ := hjb
          have ci := fi k hkS
          obtain ⟨u, hu⟩ : ∃ u, u = tg l k := ⟨_, rfl⟩
          rw [← hu] at b0 b1 b2 b3
          obtain ⟨sk, hsk⟩ : ∃ u, u = ig st k := ⟨_, rfl⟩
          rw [← hsk] at ci
          have htk := HVT.out.2 k hkL
          rw [← hu] at htk
          have hst2 := HHO.out.2 _ (ig_mem (l := st) (i := k) hkS)
          rw [← hsk] at hst2
          obtain ⟨usk, husk⟩ : ∃ n : Nat, u.skill = n := ⟨u.skill.toNat, by have := htk.2.2.1; omega⟩
          have h8 : usk < 8 := by have := htk.2.2.2.1; omega
          have hw1 : IntKind.i64.wrap (sk + u.hours) = sk + u.hours := IntWalk.i64_in _ (by have := htk.1; have := htk.2.1; omega)
          obtain ⟨y, hy⟩ : ∃ y, y = addL x usk u.bay 1 := ⟨_, rfl⟩
          have HAD := Lib.hid (show ∀ wy, Calls Try.prog 27 #[ldV x, tkV u ua uc, .int .i64 1] wy (RetB (ldV y) wy) from fun wy => by
            rw [hy]
            exact add_any x u ua uc usk 1 wy husk h8 (by rw [HX.out]; exact loadU_S HVT.out st hr' k (by omega)) (.inl rfl))
          have HNX := Lib.hid (show loadU l st hr' (k + 1) = if decide (sk ≤ hr') && decide (hr' < sk + u.hours) then y else x from by
            show (if runs l st hr' k then _ else _) = _
            unfold runs
            rw [← hsk, ← hu, ← HX.out, show u.skill.toNat = usk from by rw [husk]; rfl, hy])
          have p1 : (k : Int) < (m : Int) := by omega
          have p0 : (0 : Int) ≤ (k : Int) := by omega
          clear hu hsk htk hst2 husk hy fi hbq
          go_upto_region 13 with fail
          obtain ⟨w12, TX, hTX, hb12, hBX12, hw12⟩ : ∃ w12 TX, TX = wr.heap.size ∧ Below wr.heap.size wr w12 ∧ BoxAt w12 TX [.int .i64 u.hours, .int .i64 u.skill, .bool u.bay, .slice ua u.after.length uc] ∧ w12 = wr.alloc (.cells #[.int .i64 u.hours, .int .i64 u.skill, .bool u.bay, .slice ua u.after.length uc] 38) := ⟨_, _, rfl, (Below.refl _ _).alloc (Nat.le_refl _) _, BoxAt.new wr _ _, rfl⟩
          rw [← hw12, ← hTX]
          have HB12 := Lib.hid hb12
          have HBX12 := Lib.hid hBX12
          have r0 := (hBX12 0 _ rfl).1
          have r3 := cell_later hb12 m3
          have r5 := cell_later hb12 m5
          have r9 := cell_later hb12 m9
          have rc := cell_later hb12 ci
          have hS : ∀ wy : World, Below w12.heap.size w12 wy → wy.cell? ⟨TX, 0, none⟩ = some (.int .i64 u.hours) ∧ wy.cell? ⟨P5, 0, none⟩ = some (.slice (some ⟨ib, io, none⟩) m ic) ∧ wy.cell? ⟨P9, 0, none⟩ = some (.int .i64 hr') ∧ wy.cell? ⟨ib, io + k, none⟩ = some (.int .i64 sk) := fun wy hy => ⟨cell_later hy r0, cell_later hy r5, cell_later hy r9, cell_later hy rc⟩
          clear hw12 hTX hb12 hBX12 b0 b1 b2 b3 ci m3 m40 m41 m5 m9 x0 x1 x2 x3 x4 x5 x6 x7 x8 r0 r3 r5 r9 rc
          obtain ⟨q1, hq1⟩ : ∃ q1, decide (sk ≤ hr') = q1 := ⟨_, rfl⟩
          obtain ⟨q2, hq2⟩ : ∃ q2, decide (hr' < sk + u.hours) = q2 := ⟨_, rfl⟩
          rw [hq1, hq2] at HNX
          cases q1
          · refine wp_flow_s [] [] (by kernel_rfl) (by kernel_rfl) (by kernel_rfl) ?_
            repeat (first | ((with_reducible refine Flow.pure hS StayG.nil (v := ?_) ?_ ?_ ?_ ?_); rotate_left 1; (focus kernel_rfl); (focus (intro _; rfl)); (focus (intro β wx hSw; (try dsimp only at hSw); go_simp; (try with_reducible rfl); done)); (try simp only [Act.put, List.setIfInBounds_toArray, List.set_cons_zero, List.set_cons_succ, Nat.reduceAdd])) | ((with_reducible refine Flow.skip StayG.nil ?_ ?_ ?_); (focus kernel_rfl); (focus (intro _; rfl)); (try simp only [Act.put, List.setIfInBounds_toArray, List.set_cons_zero, List.set_cons_succ, Nat.reduceAdd])))
            ((with_reducible refine Flow.stop ?_); dsimp only; intro β w13 hI13)
            have hb13 := hI13.below
            have HC13 := Lib.hid (HCH.out.trans (Chg.of_below (HB12.out.trans (hb13.mono HB12.out.size))))
            have HBX13 := Lib.hid ((HBX'.out.later HB12.out).later hb13)
            clear hS hI13 hb13 hq1 hq2
            go_wp2_with fail
            go_roundg (m - k)
            case measure => omega
            case rel => exact ⟨k + 1, by omega, by omega, by go_num, HC13.out, by rw [HNX.out]; exact HBX13.out⟩
          · cases q2
            · refine wp_flow_s [] [] (by kernel_rfl) (by kernel_rfl) (by kernel_rfl) ?_
              repeat (first | ((with_reducible refine Flow.pure hS StayG.nil (v := ?_) ?_ ?_ ?_ ?_); rotate_left 1; (focus kernel_rfl); (focus (intro _; rfl)); (focus (intro β wx hSw; (try dsimp only at hSw); go_simp; (try with_reducible rfl); done)); (try simp only [Act.put, List.setIfInBounds_toArray, List.set_cons_zero, List.set_cons_succ, Nat.reduceAdd])) | ((with_reducible refine Flow.skip StayG.nil ?_ ?_ ?_); (focus kernel_rfl); (focus (intro _; rfl)); (try simp only [Act.put, List.setIfInBounds_toArray, List.set_cons_zero, List.set_cons_succ, Nat.reduceAdd])))
              ((with_reducible refine Flow.stop ?_); dsimp only; intro β w13 hI13)
              have hb13 := hI13.below
              have HC13 := Lib.hid (HCH.out.trans (Chg.of_below (HB12.out.trans (hb13.mono HB12.out.size))))
              have HBX13 := Lib.hid ((HBX'.out.later HB12.out).later hb13)
              clear hS hI13 hb13 hq1 hq2
              go_wp2_with fail
              go_roundg (m - k)
              case measure => omega
              case rel => exact ⟨k + 1, by omega, by omega, by go_num, HC13.out, by rw [HNX.out]; exact HBX13.out⟩
            · refine wp_flow_s [] [] (by kernel_rfl) (by kernel_rfl) (by kernel_rfl) ?_
              repeat (first | ((with_reducible refine Flow.pure hS StayG.nil (v := ?_) ?_ ?_ ?_ ?_); rotate_left 1; (focus kernel_rfl); (focus (intro _; rfl)); (focus (intro β wx hSw; (try dsimp only at hSw); go_simp; (try with_reducible rfl); done)); (try simp only [Act.put, List.setIfInBounds_toArray, List.set_cons_zero, List.set_cons_succ, Nat.reduceAdd])) | ((with_reducible refine Flow.skip StayG.nil ?_ ?_ ?_); (focus kernel_rfl); (focus (intro _; rfl)); (try simp only [Act.put, List.setIfInBounds_toArray, List.set_cons_zero, List.set_cons_succ, Nat.reduceAdd])))
              ((with_reducible refine Flow.stop ?_); dsimp only; intro β w13 hI13)
              have hb13 := hI13.below
              have HC13 := Lib.hid (HCH.out.trans (Chg.of_below (HB12.out.trans (hb13.mono HB12.out.size))))
              have hbx13 := (HBX'.out.later HB12.out).later hb13
              have ht13 := HBX12.out.later hb13
              have x0 := (hbx13 0 _ rfl).1
              have x1 := (hbx13 1 _ rfl).1
              have x2 := (hbx13 2 _ rfl).1
              have x3 := (hbx13 3 _ rfl).1
              have x4 := (hbx13 4 _ rfl).1
              have x5 := (hbx13 5 _ rfl).1
              have x6 := (hbx13 6 _ rfl).1
              have x7 := (hbx13 7 _ rfl).1
              have x8 := (hbx13 8 _ rfl).1
              have t0 := (ht13 0 _ rfl).1
              have t1 := (ht13 1 _ rfl).1
              have t2 := (ht13 2 _ rfl).1
              have t3 := (ht13 3 _ rfl).1
              have HBX13 := Lib.hid hbx13
              clear hS hI13 hb13 hq1 hq2 hbx13 ht13
              go_wp2_with fail
              refine Calls.mono (HAD.out _) ?_
              rintro e w14 ⟨rfl, hb14⟩
              have HC14 := Lib.hid (HC13.out.trans (Chg.of_below hb14))
              have hbx14 := HBX13.out.later hb14
              obtain ⟨v0, g0⟩ := hbx14 0 _ rfl
              obtain ⟨v1, g1⟩ := hbx14 1 _ rfl
              obtain ⟨v2, g2⟩ := hbx14 2 _ rfl
              obtain ⟨v3, g3⟩ := hbx14 3 _ rfl
              obtain ⟨v4, g4⟩ := hbx14 4 _ rfl
              obtain ⟨v5, g5⟩ := hbx14 5 _ rfl
              obtain ⟨v6, g6⟩ := hbx14 6 _ rfl
              obtain ⟨v7, g7⟩ := hbx14 7 _ rfl
              obtain ⟨v8, g8⟩ := hbx14 8 _ rfl
              have hd := hbx14.stored (vs := ldC y) rfl
              have hcg : Chg (fun j => j = B) w10 (w14.setCells B 0 (ldC y)) := HC14.out.grown (grown_setCells _ _ _ _) (fun j hj _ => by cases hj; rfl)
              simp only [ldC, World.setCells, Nat.zero_add, Nat.reduceAdd] at hd hcg
              have HD := Lib.hid hd
              have HCG := Lib.hid hcg
              clear hb14 hbx14 hd hcg x0 x1 x2 x3 x4 x5 x6 x7 x8 t0 t1 t2 t3
              go_wp2_with fail
              go_roundg (m - k)
              case measure => omega
              case rel => exact ⟨k + 1, by omega, by omega, by go_num, HCG.out, by rw [HNX.out]; exact HD.out⟩
        · obtain rfl : k = m := by omega
          have HNX := Lib.hid (show x = loadU l st hr' l.length from by rw [HX.out, ← HN.out])
          have HFX := Lib.hid (HFI.out x)
          have HIW := Lib.hid (HIJ.out wr hch)
          clear hch
          cases hfit : fitsB x s
          · have HE := Lib.hid (HCN.out i hlt (fun hg => by
              have h1 := hg.2
              rw [← HHR.out, ← HNX.out] at h1
              rw [fitsB_yes h1] at hfit
              cases hfit))
            rw [hfit] at HFX
            clear hfit
            go_wp2_with fail
            refine Calls.mono (HFX.out wr (HBX.out.trans (HIW.out.mono HBX.out.size))) ?_
            rintro e w11 ⟨rfl, hb11⟩
            have HB11 := Lib.hid (HIW.out.trans (hb11.mono HIW.out.size))
            clear hb11
            go_wp2_with fail
            go_ret
            exact retB (vbool HE.out.symm) (HBX.out.trans (HB11.out.mono HBX.out.size))
          · have HG := Lib.hid (show goodAt l s st i from ⟨by rw [← HTE.out, ← HHR.out, ← HAN.out], by
              rw [← HHR.out, ← HNX.out]
              refine Classical.byContradiction fun h => ?_
              rw [fitsB_no h] at hfit
              cases hfit⟩)
            rw [hfit] at HFX
            clear hfit
            go_wp2_with fail
            refine Calls.mono (HFX.out wr (HBX.out.trans (HIW.out.mono HBX.out.size))) ?_
            rintro e w11 ⟨rfl, hb11⟩
            have HB11 := Lib.hid (HIW.out.trans (hb11.mono HIW.out.size))
            clear hb11
            go_wp2_with fail
            go_roundg (k - i)
            case measure => omega
            case rel => exact ⟨i + 1, by omega, by omega, by go_num, HB11.out, fun j hj => by
              rcases Nat.lt_succ_iff_lt_or_eq.1 hj with h | h
              · exact HALL.out j h
              · subst h; exact HG.out⟩
    · obtain rfl : i = m := by omega
      have HE := Lib.hid (HCK.out HALL.out)
      clear hbr
      go_wp2_with fail
      go_ret
      exact retB (vbool HE.out.symm) (HBX.out.trans (HBR.out.mono HBX.out.size))
end Go.Proofs.Ytoblmecgnpoogaa

