

/- Package shop: Length. -/
import Derived.Test.YtoblmecgnpoogaaShpD
import Derived.Test.YtoblmecgnpoogaaTaskP
namespace Go.Proofs.Ytoblmecgnpoogaa
open Go.RowKit

def lenU (l : List Tk) (st : List Int) : Nat → Int
  | 0 => 0
  | i + 1 => max (lenU l st i) (ig st i + (tg l i).hours)
theorem lenU_in {l : List Tk} {st : List Int} (hv : VT l) (ho : HO l st) : ∀ i, i ≤ l.length → 0 ≤ lenU l st i ∧ lenU l st i ≤ 10001000
  | 0, _ => by unfold lenU; omega
  | i + 1, hi => by
    have ih := lenU_in hv ho i (by omega)
    have h1 := hv.2 i (by omega)
    have h2 := ho.2 _ (ig_mem (l := st) (i := i) (by rw [ho.1]; omega))
    have h3 := h1.1
    have h4 := h1.2.1
    unfold lenU
    omega
noncomputable def lnB (l : List Tk) (st : List Int) : Bool := vB l && hoB l st
noncomputable def lnN (l : List Tk) (st : List Int) : Int := if lnB l st = true then lenU l st l.length else 0
noncomputable def lnE (l : List Tk) (st : List Int) : Int := if lnB l st = true then 0 else 1
set_option maxRecDepth 100000 in
set_option maxHeartbeats 4000000 in
theorem length_any (l : List Tk) (a : Option Addr) (cap : Nat) (st : List Int) (ia : Option Addr) (ic : Nat) (w : World) (hT : Tasks w a l) (hl : l.length < 9223372036854775808) (hS : l.length ≤ 40 → ∀ i, i < l.length → (tg l i).after.length < 9223372036854775808) (hI : Ints w ia st) (hs : st.length < 9223372036854775807) :
    Calls Try.prog 14 #[.slice a l.length cap, .slice ia st.length ic] w (RetNE (lnN l st) (lnE l st) w) := by
  obtain ⟨v, hv⟩ : ∃ v, v = vB l := ⟨_, rfl⟩
  obtain ⟨h, hh⟩ : ∃ h, h = hoB l st := ⟨_, rfl⟩
  obtain ⟨n, hn⟩ : ∃ n, n = l.length := ⟨_, rfl⟩
  obtain ⟨m, hm⟩ : ∃ n, n = st.length := ⟨_, rfl⟩
  obtain ⟨rn, hrn⟩ : ∃ n, n = lnN l st := ⟨_, rfl⟩
  obtain ⟨re, hre⟩ : ∃ n, n = lnE l st := ⟨_, rfl⟩
  have HV := Lib.hid (show ∀ wy, Below w.heap.size w wy → Calls Try.prog 38 #[.slice a n cap] wy (RetB (.bool v) wy) from fun wy hy => by
    rw [hn]
    exact valid_any l a cap v wy (hT.later hy) hl hS (by rw [hv]; exact vB_iff l))
  have HH := Lib.hid (show ∀ wy, Below w.heap.size w wy → Calls Try.prog 39 #[.slice a n cap, .slice ia m ic] wy (RetB (.bool h) wy) from fun wy hy => by
    rw [hn, hm, hh]
    exact hoursOf_any l a cap st ia ic wy (hI.later hy) hs)
  have HT := Lib.hid hT
  have HI := Lib.hid hI
  have HN := Lib.hid hn
  have HM := Lib.hid hm
  have HRN := Lib.hid hrn
  have HRE := Lib.hid hre
  have HVE := Lib.hid hv
  have HHE := Lib.hid hh
  rw [← hn, ← hm, ← hrn, ← hre]
  clear hv hh hT hl hS hI hs hn hm hrn hre
  by_cases hok : v = true ∧ h = true
  · obtain ⟨rfl, rfl⟩ := hok
    have hv := (vB_iff l).1 HVE.out.symm
    have ho := (hoB_iff l st).1 HHE.out.symm
    have hb : lnB l st = true := by unfold lnB; rw [← HVE.out, ← HHE.out]; rfl
    have h1 : rn = lenU l st n := by rw [HRN.out, HN.out]; exact if_pos hb
    have h2 : re = 0 := by rw [HRE.out]; exact if_pos hb
    have HV2 := Lib.hid hv
    have HO2 := Lib.hid ho
    have H1 := Lib.hid h1
    have hn40 : n ≤ 40 := by rw [HN.out]; exact hv.1
    have hmn : m = n := by rw [HM.out, HN.out]; exact ho.1
    subst hmn
    subst h2
    clear hv ho hb h1 HRE
    go_enter Try.func14, Try.ntmps14
    go_wp2_with fail
    refine Calls.mono (HV.out w (Below.refl _ _)) ?_
    rintro e w1 ⟨rfl, hb1⟩
    have HB1 := Lib.hid hb1
    clear hb1
    go_wp2_with fail
    refine Calls.mono (HH.out w1 HB1.out) ?_
    rintro e w2 ⟨rfl, hb2⟩
    have HB2 := Lib.hid (HB1.out.trans (hb2.mono HB1.out.size))
    clear hb2
    go_wp2_with fail
    go_loopg [6, 20] (m + 1) (fun g v6 v20 wr => ∃ i : Nat, i ≤ m ∧ g + i = m + 1 ∧ v20 = .int .i64 i ∧ v6 = .int .i64 (lenU l st i) ∧ Below w.heap.size w wr)
    case atStart => exact ⟨0, by omega, by omega, rfl, rfl, HB2.out⟩
    case round =>
      obtain ⟨i, hi, hgi, rfl, rfl, hbr⟩ := hrel
      have HBR := Lib.hid hbr
      by_cases hlt : i < m
      · have hiL : i < l.length := by have := HN.out; omega
        have hiS : i < st.length := by have := HM.out; omega
        have hlu := lenU_in HV2.out HO2.out i (by omega)
        have hto := And.intro (HV2.out.2 i hiL).1 (HV2.out.2 i hiL).2.1
        have hst := HO2.out.2 _ (ig_mem (l := st) (i := i) hiS)
        obtain ⟨tb, to, aa, ac, rfl, c0, c1, c2, c3, _⟩ := (HT.out.later hbr) i hiL
        obtain ⟨ib, io, rfl, fi⟩ := (HI.out.later hbr).fam (by omega)
        have ci := fi i hiS
        have hs1 : lenU l st (i + 1) = max (lenU l st i) (ig st i + (tg l i).hours) := rfl
        obtain ⟨lu, hlue⟩ : ∃ u, u = lenU l st i := ⟨_, rfl⟩
        obtain ⟨th, hth⟩ : ∃ u, u = (tg l i).hours := ⟨_, rfl⟩
        obtain ⟨tsk, htsk⟩ : ∃ u, u = (tg l i).skill := ⟨_, rfl⟩
        obtain ⟨tbb, htbb⟩ : ∃ u, u = (tg l i).bay := ⟨_, rfl⟩
        obtain ⟨tal, htal⟩ : ∃ u, u = (tg l i).after.length := ⟨_, rfl⟩
        obtain ⟨si, hsi⟩ : ∃ u, u = ig st i := ⟨_, rfl⟩
        rw [← hlue] at hs1 hlu ⊢
        rw [← hth] at hs1 c0 hto
        rw [← htsk] at c1
        rw [← htbb] at c2
        rw [← htal] at c3
        rw [← hsi] at hs1 ci hst
        have HS1 := Lib.hid hs1
        have n1 : (i : Int) < (m : Int) := by omega
        have n0 : (0 : Int) ≤ (i : Int) := by omega
        have hw1 : IntKind.i64.wrap (si + th) = si + th := IntWalk.i64_in _ (by omega)
        clear hs1 hlue hth htsk htbb htal hsi fi hbr
        go_upto_region 7 with fail
        obtain ⟨w8, T, hT8, hb8, hBT, hw8⟩ : ∃ w8 T, T = wr.heap.size ∧ Below wr.heap.size wr w8 ∧ BoxAt w8 T [.int .i64 th, .int .i64 tsk, .bool tbb, .slice aa tal ac] ∧ w8 = wr.alloc (.cells #[.int .i64 th, .int .i64 tsk, .bool tbb, .slice aa tal ac] 38) := ⟨_, _, rfl, (Below.refl _ _).alloc (Nat.le_refl _) _, BoxAt.new wr _ _, rfl⟩
        rw [← hw8, ← hT8]
        have t0 := (hBT 0 _ rfl).1
        have ci8 := cell_later hb8 ci
        have HB8 := Lib.hid (HBR.out.trans (hb8.mono HBR.out.size))
        clear hw8 hT8 hb8 hBT c0 c1 c2 c3 ci
        have hS : ∀ wy : World, Below w8.heap.size w8 wy → wy.cell? ⟨T, 0, none⟩ = some (.int .i64 th) ∧ wy.cell? ⟨ib, io + i, none⟩ = some (.int .i64 si) := fun wy hy => ⟨cell_later hy t0, cell_later hy ci8⟩
        by_cases hmx : lu < si + th
        · have HMX := Lib.hid hmx
          have HE := Lib.hid (show lenU l st (i + 1) = si + th from by rw [HS1.out]; omega)
          refine wp_flow_s [] [] (by kernel_rfl) (by kernel_rfl) (by kernel_rfl) ?_
          repeat (first | ((with_reducible refine Flow.pure hS StayG.nil (v := ?_) ?_ ?_ ?_ ?_); rotate_left 1; (focus kernel_rfl); (focus (intro _; rfl)); (focus (intro β wx hSw; (try dsimp only at hSw); go_simp; (try with_reducible rfl); done)); (try simp only [Act.put, List.setIfInBounds_toArray, List.set_cons_zero, List.set_cons_succ, Nat.reduceAdd])) | ((with_reducible refine Flow.skip StayG.nil ?_ ?_ ?_); (focus kernel_rfl); (focus (intro _; rfl)); (try simp only [Act.put, List.setIfInBounds_toArray, List.set_cons_zero, List.set_cons_succ, Nat.reduceAdd])))
          ((with_reducible refine Flow.stop ?_); dsimp only; intro β w9 hI9)
          have HB9 := Lib.hid (HB8.out.trans (hI9.below.mono HB8.out.size))
          clear hS hI9 hmx t0 ci8
          go_wp2_with fail
          go_roundg (m - i)
          case measure => omega
          case rel => exact ⟨i + 1, by omega, by omega, by go_num, (by have h1 := HMX.out; have h2 := HE.out; first | (rw [h2]; done) | (congr 1; omega)), HB9.out⟩
        · have HMX := Lib.hid hmx
          have HE := Lib.hid (show lenU l st (i + 1) = lu from by rw [HS1.out]; omega)
          refine wp_flow_s [] [] (by kernel_rfl) (by kernel_rfl) (by kernel_rfl) ?_
          repeat (first | ((with_reducible refine Flow.pure hS StayG.nil (v := ?_) ?_ ?_ ?_ ?_); rotate_left 1; (focus kernel_rfl); (focus (intro _; rfl)); (focus (intro β wx hSw; (try dsimp only at hSw); go_simp; (try with_reducible rfl); done)); (try simp only [Act.put, List.setIfInBounds_toArray, List.set_cons_zero, List.set_cons_succ, Nat.reduceAdd])) | ((with_reducible refine Flow.skip StayG.nil ?_ ?_ ?_); (focus kernel_rfl); (focus (intro _; rfl)); (try simp only [Act.put, List.setIfInBounds_toArray, List.set_cons_zero, List.set_cons_succ, Nat.reduceAdd])))
          ((with_reducible refine Flow.stop ?_); dsimp only; intro β w9 hI9)
          have HB9 := Lib.hid (HB8.out.trans (hI9.below.mono HB8.out.size))
          clear hS hI9 hmx t0 ci8
          go_wp2_with fail
          go_roundg (m - i)
          case measure => omega
          case rel => exact ⟨i + 1, by omega, by omega, by go_num, (by have h1 := HMX.out; have h2 := HE.out; first | (rw [h2]; done) | (congr 1; omega)), HB9.out⟩
      · obtain rfl : i = m := by omega
        have HB3 := Lib.hid hbr
        have HE := Lib.hid H1.out
        clear hbr
        go_wp2_with fail
        go_ret2
        exact ⟨by rw [HE.out]; rfl, HB3.out⟩
  · have hb : ¬ lnB l st = true := by
      unfold lnB
      rw [← HVE.out, ← HHE.out]
      intro e
      rw [Bool.and_eq_true] at e
      exact hok e
    have h1 : rn = 0 := by rw [HRN.out]; exact if_neg hb
    have h2 : re = 1 := by rw [HRE.out]; exact if_neg hb
    subst h1 h2
    clear hb HRN HRE
    cases v
    · go_enter Try.func14, Try.ntmps14
      go_wp2_with fail
      refine Calls.mono (HV.out w (Below.refl _ _)) ?_
      rintro e w1 ⟨rfl, hb1⟩
      have HB1 := Lib.hid hb1
      clear hb1
      go_wp2_with fail
      go_ret2
      exact ⟨rfl, HB1.out⟩
    · cases h
      · go_enter Try.func14, Try.ntmps14
        go_wp2_with fail
        refine Calls.mono (HV.out w (Below.refl _ _)) ?_
        rintro e w1 ⟨rfl, hb1⟩
        have HB1 := Lib.hid hb1
        clear hb1
        go_wp2_with fail
        refine Calls.mono (HH.out w1 HB1.out) ?_
        rintro e w2 ⟨rfl, hb2⟩
        have HB2 := Lib.hid (HB1.out.trans (hb2.mono HB1.out.size))
        clear hb2
        go_wp2_with fail
        go_ret2
        exact ⟨rfl, HB2.out⟩
      · exact absurd ⟨rfl, rfl⟩ hok
end Go.Proofs.Ytoblmecgnpoogaa

