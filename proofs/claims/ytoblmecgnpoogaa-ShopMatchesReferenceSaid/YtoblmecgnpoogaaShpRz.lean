

/- Package shop's reference: Valid, Can, Running, Ended, Length, Check, Plan, in one text (a claim holds at most 60 files): written by a program of mine from ShpRa .. ShpRf. -/
import Derived.Test.YtoblmecgnpoogaaShpY
import Derived.Test.YtoblmecgnpoogaaShpW
import Derived.Test.YtoblmecgnpoogaaShpBusy
import Derived.Test.YtoblmecgnpoogaaTaskN
import Derived.Test.YtoblmecgnpoogaaShpE
import Derived.Test.YtoblmecgnpoogaaShpO
namespace Go.Proofs.Ytoblmecgnpoogaa
open Go.RowKit

/-! ### ShpRa -/
noncomputable def vsV (s : Sh) : Bool := @decide (VS s) (Classical.propDecidable _)
theorem vsV_iff (s : Sh) : vsV s = true ↔ VS s := by
  unfold vsV
  exact @decide_eq_true_iff _ (Classical.propDecidable _)
theorem vsV_no {s : Sh} (h : ¬ VS s) : vsV s = false := @decide_eq_false _ (Classical.propDecidable _) h
set_option maxRecDepth 100000 in
set_option maxHeartbeats 4000000 in
theorem rshop_any (s : Sh) (sa : Option Addr) (sc : Nat) (w : World) (hI : Ints w sa s.staff) (hq20 : s.staff.length ≤ 20) :
    Calls Try.prog 20 #[shV s sa sc] w (RetB (.bool (vsV s)) w) := by
  obtain ⟨q, hq⟩ : ∃ n, n = s.staff.length := ⟨_, rfl⟩
  obtain ⟨bs, hbs⟩ : ∃ n, n = s.bays := ⟨_, rfl⟩
  obtain ⟨r, hr⟩ : ∃ r, r = vsV s := ⟨_, rfl⟩
  have HI := Lib.hid hI
  have HQ := Lib.hid hq
  have HBS := Lib.hid hbs
  have HR := Lib.hid hr
  rw [← hq] at hq20
  unfold shV
  rw [← hq, ← hbs, ← hr]
  clear hI hq hbs hr
  go_enter Try.func20, Try.ntmps20
  go_upto_region 1 with fail
  obtain ⟨wX, P, hP, hbX, hBX, hwX⟩ : ∃ wX P, P = w.heap.size ∧ Below w.heap.size w wX ∧ BoxAt wX P [.slice sa q sc, .int .i64 bs] ∧ wX = w.alloc (.cells #[.slice sa q sc, .int .i64 bs] 25) := ⟨_, _, rfl, (Below.refl _ _).alloc (Nat.le_refl _) _, BoxAt.new w _ _, rfl⟩
  rw [← hwX, ← hP]
  have HBX := Lib.hid hbX
  have c0 := (hBX 0 _ rfl).1
  have c1 := (hBX 1 _ rfl).1
  clear hP hbX hBX hwX
  go_wp2_with fail
  go_loopg [3] (q + 1) (fun gk v3 wr => ∃ i : Nat, i ≤ q ∧ gk + i = q + 1 ∧ v3 = .int .i64 i ∧ wX = wr ∧ ∀ j, j < i → 0 ≤ ig s.staff j ∧ ig s.staff j ≤ 60)
  case atStart => exact ⟨0, by omega, by omega, rfl, rfl, fun j hj => absurd hj (by omega)⟩
  case round =>
    obtain ⟨i, hi, hgi, rfl, rfl, hall⟩ := hrel
    have HALL := Lib.hid hall
    clear hall
    by_cases hlt : i < q
    · obtain ⟨vb, vo, rfl, fv⟩ := (HI.out.later HBX.out).fam (by rw [← HQ.out]; omega)
      have cv := fv i (by rw [← HQ.out]; exact hlt)
      obtain ⟨v, hv⟩ : ∃ v, v = ig s.staff i := ⟨_, rfl⟩
      rw [← hv] at cv
      have HVE := Lib.hid hv
      have n1 : (i : Int) < (q : Int) := by omega
      have n0 : (0 : Int) ≤ (i : Int) := by omega
      have HNO := Lib.hid (show (v < 0 ∨ 60 < v) → r = false from fun h => HR.out.trans (vsV_no fun hvs => by
        have := hvs.2.1 _ (ig_mem (l := s.staff) (i := i) (by rw [← HQ.out]; exact hlt))
        rw [← HVE.out] at this
        omega))
      clear fv hv
      by_cases h0 : v < 0
      · have HE := Lib.hid (HNO.out (.inl h0))
        go_wp2_with fail
        go_ret
        exact retB (vbool HE.out.symm) HBX.out
      by_cases h1 : 60 < v
      · have HE := Lib.hid (HNO.out (.inr h1))
        go_wp2_with fail
        go_ret
        exact retB (vbool HE.out.symm) HBX.out
      have HV2 := Lib.hid (show 0 ≤ ig s.staff i ∧ ig s.staff i ≤ 60 from by rw [← HVE.out]; omega)
      go_wp2_with fail
      go_roundg (gk - 1)
      case measure => omega
      case rel => exact ⟨i + 1, by omega, by omega, by go_num, rfl, fun j hj => by
        rcases Nat.lt_succ_iff_lt_or_eq.1 hj with h | h
        · exact HALL.out j h
        · subst h; exact HV2.out⟩
    · obtain rfl : i = q := by omega
      have hE : r = (decide (i ≤ 8) && (decide (0 ≤ bs) && decide (bs ≤ 60))) := by
        rw [HR.out]
        by_cases h : i ≤ 8 ∧ 0 ≤ bs ∧ bs ≤ 60
        · rw [(vsV_iff s).2 ⟨by rw [← HQ.out]; exact h.1, fun x hx => ?_, by rw [← HBS.out]; exact h.2.1, by rw [← HBS.out]; exact h.2.2⟩]
          · simp [h.1, h.2.1, h.2.2]
          · obtain ⟨j, hj, rfl⟩ := List.getElem_of_mem hx
            rw [← ig_lt hj]
            exact HALL.out j (by rw [HQ.out]; exact hj)
        · rw [vsV_no fun hvs => h ⟨by rw [HQ.out]; exact hvs.1, by rw [HBS.out]; exact hvs.2.2.1, by rw [HBS.out]; exact hvs.2.2.2⟩]
          by_cases h1 : i ≤ 8
          · by_cases h2 : 0 ≤ bs
            · have h3 : ¬ bs ≤ 60 := fun h3 => h ⟨h1, h2, h3⟩
              simp [h3]
            · simp [h2]
          · simp [h1]
      have HE := Lib.hid hE
      clear hE hlt
      by_cases h1 : (i : Int) ≤ 8
      · by_cases h2 : 0 ≤ bs
        · by_cases h3 : bs ≤ 60
          · have HF := Lib.hid (show r = true from by rw [HE.out, decide_eq_true (p := i ≤ 8) (by omega), decide_eq_true h2, decide_eq_true h3]; rfl)
            go_wp2_with fail
            go_ret
            exact retB (vbool HF.out.symm) HBX.out
          · have HF := Lib.hid (show r = false from by rw [HE.out, decide_eq_false h3]; simp)
            go_wp2_with fail
            go_ret
            exact retB (vbool HF.out.symm) HBX.out
        · have HF := Lib.hid (show r = false from by rw [HE.out, decide_eq_false h2]; simp)
          go_wp2_with fail
          go_ret
          exact retB (vbool HF.out.symm) HBX.out
      · have HF := Lib.hid (show r = false from by rw [HE.out, decide_eq_false (p := i ≤ 8) (by omega)]; simp)
        go_wp2_with fail
        go_ret
        exact retB (vbool HF.out.symm) HBX.out
/-! ### ShpRb -/
/-- begun, and running at an hour -/
def rr (l : List Tk) (st : List Int) (h : Int) (k : Nat) : Bool := decide (0 ≤ ig st k) && runs l st h k
def rS (l : List Tk) (st : List Int) (h sk : Int) (k : Nat) : Bool := rr l st h k && decide ((tg l k).skill = sk)
def rB (l : List Tk) (st : List Int) (h : Int) (k : Nat) : Bool := rr l st h k && (tg l k).bay
def endB (l : List Tk) (st : List Int) (A : List Int) (h : Int) : Bool := A.all fun a => decide (0 ≤ ig st a.toNat) && decide (endAt l st a.toNat ≤ h)
/-- starts that may be: -1 for those that have not begun -/
def St (l : List Tk) (st : List Int) : Prop := st.length = l.length ∧ ∀ k, k < l.length → -1 ≤ ig st k ∧ ig st k ≤ 9999999
theorem HO.st {l : List Tk} {st : List Int} (h : HO l st) : St l st := ⟨h.1, fun k hk => by have := h.2 _ (ig_mem (l := st) (i := k) (by rw [h.1]; exact hk)); omega⟩
set_option maxRecDepth 100000 in
set_option maxHeartbeats 4000000 in
theorem running_any (l : List Tk) (a : Option Addr) (cap : Nat) (st : List Int) (ia : Option Addr) (ic : Nat) (h sk : Int) (w : World) (hT : Tasks w a l) (hv : VT l) (hJ : Ints w ia st) (ho : St l st) :
    Calls Try.prog 37 #[.slice a l.length cap, .slice ia st.length ic, .int .i64 h, .int .i64 sk] w (RetNN (cntP (rS l st h sk) l.length) (cntP (rB l st h) l.length) w) := by
  obtain ⟨n, hn⟩ : ∃ n, n = l.length := ⟨_, rfl⟩
  obtain ⟨m, hm⟩ : ∃ m, m = st.length := ⟨_, rfl⟩
  have hmn : m = n := by rw [hm, hn]; exact ho.1
  subst hmn
  have h40 : m ≤ 40 := by rw [hn]; exact hv.1
  have HT := Lib.hid hT
  have HJ := Lib.hid hJ
  have HN := Lib.hid hn
  have HM := Lib.hid hm
  have HV := Lib.hid hv
  have HO := Lib.hid ho
  rw [← hn, ← hm]
  clear hT hJ hn hm hv ho
  go_enter Try.func37, Try.ntmps37
  go_wp2_with fail
  go_loopg [10, 11, 12] (m + 1) (fun gk v10 v11 v12 wr => ∃ k : Nat, k ≤ m ∧ gk + k = m + 1 ∧ v12 = .int .i64 k ∧ v10 = .int .i64 (cntP (rS l st h sk) k) ∧ v11 = .int .i64 (cntP (rB l st h) k) ∧ Below w.heap.size w wr)
  case atStart => exact ⟨0, by omega, by omega, rfl, rfl, rfl, Below.refl _ _⟩
  case round =>
    obtain ⟨k, hk, hgk, rfl, rfl, rfl, hbr⟩ := hrel
    have HBR := Lib.hid hbr
    by_cases hlt : k < m
    · have hkL : k < l.length := by rw [← HN.out]; exact hlt
      have hkS : k < st.length := by rw [← HM.out]; exact hlt
      obtain ⟨tb, tf, aa, ac, rfl, b0, b1, b2, _, _⟩ := (HT.out.later hbr) k hkL
      obtain ⟨jb, jo, rfl, fi⟩ := (HJ.out.later hbr).fam (by omega)
      have ci := fi k hkS
      have htk := HV.out.2 k hkL
      have hst := HO.out.2 k hkL
      have c1 := cntP_le (rS l st h sk) k
      have c2 := cntP_le (rB l st h) k
      have e1 : cntP (rS l st h sk) (k + 1) = cntP (rS l st h sk) k + if rS l st h sk k then 1 else 0 := rfl
      have e2 : cntP (rB l st h) (k + 1) = cntP (rB l st h) k + if rB l st h k then 1 else 0 := rfl
      have es : rS l st h sk k = ((decide (0 ≤ ig st k) && (decide (ig st k ≤ h) && decide (h < ig st k + (tg l k).hours))) && decide ((tg l k).skill = sk)) := rfl
      have eb : rB l st h k = ((decide (0 ≤ ig st k) && (decide (ig st k ≤ h) && decide (h < ig st k + (tg l k).hours))) && (tg l k).bay) := rfl
      obtain ⟨p, hp⟩ : ∃ u, u = cntP (rS l st h sk) k := ⟨_, rfl⟩
      obtain ⟨q, hq⟩ : ∃ u, u = cntP (rB l st h) k := ⟨_, rfl⟩
      obtain ⟨x, hx⟩ : ∃ x, x = ig st k := ⟨_, rfl⟩
      obtain ⟨y, hy⟩ : ∃ y, y = (tg l k).hours := ⟨_, rfl⟩
      obtain ⟨s1, hs1⟩ : ∃ y, y = (tg l k).skill := ⟨_, rfl⟩
      obtain ⟨by', hby⟩ : ∃ y, y = (tg l k).bay := ⟨_, rfl⟩
      have h1 := htk.1
      have h2 := htk.2.1
      rw [← hp] at e1 c1
      rw [← hq] at e2 c2
      rw [← hx, ← hy, ← hs1] at es
      rw [← hx, ← hy, ← hby] at eb
      rw [← hx] at ci hst
      rw [← hy] at b0 h1 h2
      rw [← hs1] at b1
      rw [← hby] at b2
      rw [← hp, ← hq]
      have hw1 : IntKind.i64.wrap (x + y) = x + y := IntWalk.i64_in _ (by omega)
      have HW := Lib.hid hw1
      have HE1 := Lib.hid e1
      have HE2 := Lib.hid e2
      have HES := Lib.hid es
      have HEB := Lib.hid eb
      have n1 : (k : Int) < (m : Int) := by omega
      have n0 : (0 : Int) ≤ (k : Int) := by omega
      have hS : ∀ wy : World, Below wr.heap.size wr wy → wy.cell? ⟨tb, tf + k * 4, none⟩ = some (.int .i64 y) ∧ wy.cell? ⟨tb, tf + k * 4 + 1, none⟩ = some (.int .i64 s1) ∧ wy.cell? ⟨tb, tf + k * 4 + 2, none⟩ = some (.bool by') ∧ wy.cell? ⟨jb, jo + k, none⟩ = some (.int .i64 x) := fun wy hy => ⟨cell_later hy b0, cell_later hy b1, cell_later hy b2, cell_later hy ci⟩
      clear hp hq hx hy hs1 hby fi htk hst h1 h2 b0 b1 b2 ci hkL hkS hbr e1 e2 es eb
      go_upto_region 6 with fail
      by_cases hki : x < 0
      · have HZ := Lib.hid (show rS l st h sk k = false ∧ rB l st h k = false from by rw [HES.out, HEB.out, decide_eq_false (p := 0 ≤ x) (by omega)]; simp)
        (refine wp_flow_s [] [] (by kernel_rfl) (by kernel_rfl) (by kernel_rfl) ?_; repeat (first | ((with_reducible refine Flow.pure hS StayG.nil (v := ?_) ?_ ?_ ?_ ?_); rotate_left 1; (focus kernel_rfl); (focus (intro _; rfl)); (focus (intro β wx hSw; (try dsimp only at hSw); go_simp; (try with_reducible rfl); done)); (try simp only [Act.put, List.setIfInBounds_toArray, List.set_cons_zero, List.set_cons_succ, Nat.reduceAdd])) | ((with_reducible refine Flow.skip StayG.nil ?_ ?_ ?_); (focus kernel_rfl); (focus (intro _; rfl)); (try simp only [Act.put, List.setIfInBounds_toArray, List.set_cons_zero, List.set_cons_succ, Nat.reduceAdd]))))
        ((with_reducible refine Flow.stop ?_); dsimp only; intro β w9 hI9)
        have HB9 := Lib.hid (HBR.out.trans (hI9.below.mono HBR.out.size))
        clear hS hI9
        go_wp2_with fail
        go_roundg (gk - 1)
        case measure => omega
        case rel => exact ⟨k + 1, by omega, by omega, by go_num, by rw [HE1.out, HZ.out.1]; rfl, by rw [HE2.out, HZ.out.2]; rfl, HB9.out⟩
      by_cases hx1 : h < x
      · have HZ := Lib.hid (show rS l st h sk k = false ∧ rB l st h k = false from by rw [HES.out, HEB.out, decide_eq_false (p := x ≤ h) (by omega)]; simp)
        (refine wp_flow_s [] [] (by kernel_rfl) (by kernel_rfl) (by kernel_rfl) ?_; repeat (first | ((with_reducible refine Flow.pure hS StayG.nil (v := ?_) ?_ ?_ ?_ ?_); rotate_left 1; (focus kernel_rfl); (focus (intro _; rfl)); (focus (intro β wx hSw; (try dsimp only at hSw); go_simp; (try with_reducible rfl); done)); (try simp only [Act.put, List.setIfInBounds_toArray, List.set_cons_zero, List.set_cons_succ, Nat.reduceAdd])) | ((with_reducible refine Flow.skip StayG.nil ?_ ?_ ?_); (focus kernel_rfl); (focus (intro _; rfl)); (try simp only [Act.put, List.setIfInBounds_toArray, List.set_cons_zero, List.set_cons_succ, Nat.reduceAdd]))))
        ((with_reducible refine Flow.stop ?_); dsimp only; intro β w9 hI9)
        have HB9 := Lib.hid (HBR.out.trans (hI9.below.mono HBR.out.size))
        clear hS hI9
        go_wp2_with fail
        go_roundg (gk - 1)
        case measure => omega
        case rel => exact ⟨k + 1, by omega, by omega, by go_num, by rw [HE1.out, HZ.out.1]; rfl, by rw [HE2.out, HZ.out.2]; rfl, HB9.out⟩
      by_cases hx2 : x + y ≤ h
      · have HZ := Lib.hid (show rS l st h sk k = false ∧ rB l st h k = false from by rw [HES.out, HEB.out, decide_eq_false (p := h < x + y) (by omega)]; simp)
        (refine wp_flow_s [] [] (by kernel_rfl) (by kernel_rfl) (by kernel_rfl) ?_; repeat (first | ((with_reducible refine Flow.pure hS StayG.nil (v := ?_) ?_ ?_ ?_ ?_); rotate_left 1; (focus kernel_rfl); (focus (intro _; rfl)); (focus (intro β wx hSw; (try dsimp only at hSw); go_simp; (try with_reducible rfl); done)); (try simp only [Act.put, List.setIfInBounds_toArray, List.set_cons_zero, List.set_cons_succ, Nat.reduceAdd])) | ((with_reducible refine Flow.skip StayG.nil ?_ ?_ ?_); (focus kernel_rfl); (focus (intro _; rfl)); (try simp only [Act.put, List.setIfInBounds_toArray, List.set_cons_zero, List.set_cons_succ, Nat.reduceAdd]))))
        ((with_reducible refine Flow.stop ?_); dsimp only; intro β w9 hI9)
        have HB9 := Lib.hid (HBR.out.trans (hI9.below.mono HBR.out.size))
        clear hS hI9
        go_wp2_with fail
        go_roundg (gk - 1)
        case measure => omega
        case rel => exact ⟨k + 1, by omega, by omega, by go_num, by rw [HE1.out, HZ.out.1]; rfl, by rw [HE2.out, HZ.out.2]; rfl, HB9.out⟩
      have HZS := Lib.hid (show rS l st h sk k = decide (s1 = sk) from by rw [HES.out, decide_eq_true (p := 0 ≤ x) (by omega), decide_eq_true (p := x ≤ h) (by omega), decide_eq_true (p := h < x + y) (by omega)]; simp)
      have HZB := Lib.hid (show rB l st h k = by' from by rw [HEB.out, decide_eq_true (p := 0 ≤ x) (by omega), decide_eq_true (p := x ≤ h) (by omega), decide_eq_true (p := h < x + y) (by omega)]; simp)
      (refine wp_flow_s [] [] (by kernel_rfl) (by kernel_rfl) (by kernel_rfl) ?_; repeat (first | ((with_reducible refine Flow.pure hS StayG.nil (v := ?_) ?_ ?_ ?_ ?_); rotate_left 1; (focus kernel_rfl); (focus (intro _; rfl)); (focus (intro β wx hSw; (try dsimp only at hSw); go_simp; (try with_reducible rfl); done)); (try simp only [Act.put, List.setIfInBounds_toArray, List.set_cons_zero, List.set_cons_succ, Nat.reduceAdd])) | ((with_reducible refine Flow.skip StayG.nil ?_ ?_ ?_); (focus kernel_rfl); (focus (intro _; rfl)); (try simp only [Act.put, List.setIfInBounds_toArray, List.set_cons_zero, List.set_cons_succ, Nat.reduceAdd]))))
      ((with_reducible refine Flow.stop ?_); dsimp only; intro β w9 hI9)
      have HB9 := Lib.hid (HBR.out.trans (hI9.below.mono HBR.out.size))
      have hS9 : ∀ wy : World, Below w9.heap.size w9 wy → wy.cell? ⟨tb, tf + k * 4 + 1, none⟩ = some (.int .i64 s1) ∧ wy.cell? ⟨tb, tf + k * 4 + 2, none⟩ = some (.bool by') := fun wy hy => ⟨cell_later hy (hS w9 hI9.below).2.1, cell_later hy (hS w9 hI9.below).2.2.1⟩
      clear hI9 hw1 hki hx1 hx2 hS
      go_upto_region 7 with fail
      by_cases hss : s1 = sk
      · have HS1 := Lib.hid (show rS l st h sk k = true from by rw [HZS.out]; exact decide_eq_true hss)
        subst hss
        obtain ⟨c1, c2⟩ := hS9 w9 (Below.refl _ _)
        clear hS9
        cases by'
        · go_wp2_with fail
          go_roundg (gk - 1)
          case measure => omega
          case rel => exact ⟨k + 1, by omega, by omega, by go_num, by rw [HE1.out, HS1.out]; go_num, by rw [HE2.out, HZB.out]; rfl, HB9.out⟩
        · go_wp2_with fail
          go_roundg (gk - 1)
          case measure => omega
          case rel => exact ⟨k + 1, by omega, by omega, by go_num, by rw [HE1.out, HS1.out]; go_num, by rw [HE2.out, HZB.out]; go_num, HB9.out⟩
      · have HS1 := Lib.hid (show rS l st h sk k = false from by rw [HZS.out]; exact decide_eq_false hss)
        have hss' : (s1 == sk) = false := beq_eq_false_iff_ne.2 hss
        clear hss
        obtain ⟨c1, c2⟩ := hS9 w9 (Below.refl _ _)
        clear hS9
        cases by'
        · go_wp2_with fail
          go_roundg (gk - 1)
          case measure => omega
          case rel => exact ⟨k + 1, by omega, by omega, by go_num, by rw [HE1.out, HS1.out]; rfl, by rw [HE2.out, HZB.out]; rfl, HB9.out⟩
        · go_wp2_with fail
          go_roundg (gk - 1)
          case measure => omega
          case rel => exact ⟨k + 1, by omega, by omega, by go_num, by rw [HE1.out, HS1.out]; rfl, by rw [HE2.out, HZB.out]; go_num, HB9.out⟩
    · obtain rfl : k = m := by omega
      clear hlt hbr
      go_wp2_with fail
      go_ret2
      exact ⟨rfl, HBR.out⟩
set_option maxRecDepth 100000 in
set_option maxHeartbeats 4000000 in
theorem ended_any (l : List Tk) (a : Option Addr) (cap : Nat) (st : List Int) (ia : Option Addr) (ic i : Nat) (aa : Option Addr) (ac : Nat) (h : Int) (w : World) (hT : Tasks w a l) (hv : VT l) (hJ : Ints w ia st) (ho : St l st) (hi : i < l.length) (hA : Ints w aa (tg l i).after) :
    Calls Try.prog 36 #[.slice a l.length cap, .slice ia st.length ic, tkV (tg l i) aa ac, .int .i64 h] w (RetB (.bool (endB l st (tg l i).after h)) w) := by
  obtain ⟨n, hn⟩ : ∃ n, n = l.length := ⟨_, rfl⟩
  obtain ⟨m, hm⟩ : ∃ m, m = st.length := ⟨_, rfl⟩
  have hmn : m = n := by rw [hm, hn]; exact ho.1
  subst hmn
  have h40 : m ≤ 40 := by rw [hn]; exact hv.1
  have hal := after_len hv hi
  obtain ⟨t, ht⟩ : ∃ t, t = tg l i := ⟨_, rfl⟩
  have htk := hv.2 i hi
  rw [← ht] at hA hal htk ⊢
  obtain ⟨r, hr⟩ : ∃ r, r = endB l st t.after h := ⟨_, rfl⟩
  have HR := Lib.hid hr
  have HT := Lib.hid hT
  have HJ := Lib.hid hJ
  have HA := Lib.hid hA
  have HN := Lib.hid hn
  have HM := Lib.hid hm
  have HV := Lib.hid hv
  have HO := Lib.hid ho
  have HTK := Lib.hid htk
  have HNO := Lib.hid (show ∀ k, k < t.after.length → ¬ (0 ≤ ig st (ig t.after k).toNat ∧ endAt l st (ig t.after k).toNat ≤ h) → r = false from fun k hk hno => by
    rw [hr]
    unfold endB
    rw [List.all_eq_false]
    refine ⟨ig t.after k, ig_mem hk, ?_⟩
    simpa using hno)
  have HYES := Lib.hid (show (∀ k, k < t.after.length → 0 ≤ ig st (ig t.after k).toNat ∧ endAt l st (ig t.after k).toNat ≤ h) → r = true from fun hy => by
    rw [hr]
    unfold endB
    rw [List.all_eq_true]
    intro x hx
    obtain ⟨k, hk, rfl⟩ := List.getElem_of_mem hx
    have := hy k hk
    rw [ig_lt hk] at this
    simpa using this)
  unfold tkV
  rw [← hn, ← hm, ← hr]
  clear hT hJ hn hm hv ho hi hA hr ht htk
  go_enter Try.func36, Try.ntmps36
  go_upto_region 1 with fail
  obtain ⟨wX, T, hT, hbX, hBX, hwX⟩ : ∃ wX T, T = w.heap.size ∧ Below w.heap.size w wX ∧ BoxAt wX T [.int .i64 t.hours, .int .i64 t.skill, .bool t.bay, .slice aa t.after.length ac] ∧ wX = w.alloc (.cells #[.int .i64 t.hours, .int .i64 t.skill, .bool t.bay, .slice aa t.after.length ac] 38) := ⟨_, _, rfl, (Below.refl _ _).alloc (Nat.le_refl _) _, BoxAt.new w _ _, rfl⟩
  rw [← hwX, ← hT]
  have HBX := Lib.hid hbX
  have HBT := Lib.hid hBX
  clear hT hbX hBX hwX
  go_wp2_with fail
  go_loopg [9] (t.after.length + 1) (fun gk v9 wr => ∃ k : Nat, k ≤ t.after.length ∧ gk + k = t.after.length + 1 ∧ v9 = .int .i64 k ∧ Below wX.heap.size wX wr ∧ ∀ r, r < k → 0 ≤ ig st (ig t.after r).toNat ∧ endAt l st (ig t.after r).toNat ≤ h)
  case atStart => exact ⟨0, by omega, by omega, rfl, Below.refl _ _, fun r hr => absurd hr (by omega)⟩
  case round =>
    obtain ⟨k, hk, hgk, rfl, hbr, hall⟩ := hrel
    have HBR := Lib.hid hbr
    have HALL := Lib.hid hall
    have t3 := ((HBT.out.later hbr) 3 _ rfl).1
    clear hall
    by_cases hlt : k < t.after.length
    · have hbw := HBX.out.trans (hbr.mono HBX.out.size)
      obtain ⟨j, hj1, hj2⟩ := good_mem HTK.out.2.2.2.2 hlt
      have hjL := hj2
      rw [← HN.out] at hj2
      obtain ⟨eb, eo, rfl, fe⟩ := (HA.out.later hbw).fam (by omega)
      have ce := fe k hlt
      rw [hj1] at ce
      obtain ⟨tb, tf, _, _, rfl, g0, _, _, _, _⟩ := (HT.out.later hbw) j hjL
      obtain ⟨jb, jo, rfl, f6⟩ := (HJ.out.later hbw).fam (by rw [← HM.out]; omega)
      have g1 := f6 j (by rw [← HM.out]; exact hj2)
      have htj := HV.out.2 j hjL
      have hpj := HO.out.2 j hjL
      have hen : endAt l st j = ig st j + (tg l j).hours := rfl
      have HNJ := HNO.out k hlt
      rw [hj1, Int.toNat_natCast] at HNJ
      have hyk : (0 ≤ ig st j ∧ endAt l st j ≤ h) → (0 ≤ ig st (ig t.after k).toNat ∧ endAt l st (ig t.after k).toNat ≤ h) := fun hh => by rw [hj1, Int.toNat_natCast]; exact hh
      obtain ⟨xj, hxj⟩ : ∃ x, x = ig st j := ⟨_, rfl⟩
      obtain ⟨yj, hyj⟩ : ∃ x, x = (tg l j).hours := ⟨_, rfl⟩
      have hy1 := htj.1
      have hy2 := htj.2.1
      rw [← hxj, ← hyj] at hen
      rw [← hxj] at g1 hpj HNJ hyk
      rw [hen] at HNJ hyk
      rw [← hyj] at g0 hy1 hy2
      have hwj : IntKind.i64.wrap (xj + yj) = xj + yj := IntWalk.i64_in _ (by omega)
      have HNJ' := Lib.hid HNJ
      have HYK := Lib.hid hyk
      have k1 : (k : Int) < (t.after.length : Int) := by omega
      have k0 : (0 : Int) ≤ (k : Int) := by omega
      have j1 : (j : Int) < (m : Int) := by omega
      have j0 : (0 : Int) ≤ (j : Int) := by omega
      have hS3 : ∀ wy : World, Below wr.heap.size wr wy → wy.cell? ⟨tb, tf + j * 4, none⟩ = some (.int .i64 yj) ∧ wy.cell? ⟨jb, jo + j, none⟩ = some (.int .i64 xj) := fun wy hy => ⟨cell_later hy g0, cell_later hy g1⟩
      have HS3 := Lib.hid hS3
      clear fe hj1 hj2 hjL f6 htj hpj hxj hyj hy1 hy2 hen hS3 g0 g1 hbr HNJ hyk hbw
      go_upto_region 5 with fail
      clear ce t3
      have hS := HS3.out
      by_cases hx0 : xj < 0
      · have HE := Lib.hid (HNJ'.out (by omega))
        (refine wp_flow_s [] [] (by kernel_rfl) (by kernel_rfl) (by kernel_rfl) ?_; repeat (first | ((with_reducible refine Flow.pure hS StayG.nil (v := ?_) ?_ ?_ ?_ ?_); rotate_left 1; (focus kernel_rfl); (focus (intro _; rfl)); (focus (intro β wx hSw; (try dsimp only at hSw); go_simp; (try with_reducible rfl); done)); (try simp only [Act.put, List.setIfInBounds_toArray, List.set_cons_zero, List.set_cons_succ, Nat.reduceAdd])) | ((with_reducible refine Flow.skip StayG.nil ?_ ?_ ?_); (focus kernel_rfl); (focus (intro _; rfl)); (try simp only [Act.put, List.setIfInBounds_toArray, List.set_cons_zero, List.set_cons_succ, Nat.reduceAdd]))))
        ((with_reducible refine Flow.stop ?_); dsimp only; intro β w10 hI10)
        have HB10 := Lib.hid (HBR.out.trans (hI10.below.mono HBR.out.size))
        clear hS hI10 hwj
        go_wp2_with fail
        go_ret
        exact retB (vbool HE.out.symm) (HBX.out.trans (HB10.out.mono HBX.out.size))
      by_cases hgt : h < xj + yj
      · have HE := Lib.hid (HNJ'.out (by omega))
        (refine wp_flow_s [] [] (by kernel_rfl) (by kernel_rfl) (by kernel_rfl) ?_; repeat (first | ((with_reducible refine Flow.pure hS StayG.nil (v := ?_) ?_ ?_ ?_ ?_); rotate_left 1; (focus kernel_rfl); (focus (intro _; rfl)); (focus (intro β wx hSw; (try dsimp only at hSw); go_simp; (try with_reducible rfl); done)); (try simp only [Act.put, List.setIfInBounds_toArray, List.set_cons_zero, List.set_cons_succ, Nat.reduceAdd])) | ((with_reducible refine Flow.skip StayG.nil ?_ ?_ ?_); (focus kernel_rfl); (focus (intro _; rfl)); (try simp only [Act.put, List.setIfInBounds_toArray, List.set_cons_zero, List.set_cons_succ, Nat.reduceAdd]))))
        ((with_reducible refine Flow.stop ?_); dsimp only; intro β w10 hI10)
        have HB10 := Lib.hid (HBR.out.trans (hI10.below.mono HBR.out.size))
        clear hS hI10 hwj
        go_wp2_with fail
        go_ret
        exact retB (vbool HE.out.symm) (HBX.out.trans (HB10.out.mono HBX.out.size))
      · have HEND := Lib.hid (HYK.out (by omega))
        (refine wp_flow_s [] [] (by kernel_rfl) (by kernel_rfl) (by kernel_rfl) ?_; repeat (first | ((with_reducible refine Flow.pure hS StayG.nil (v := ?_) ?_ ?_ ?_ ?_); rotate_left 1; (focus kernel_rfl); (focus (intro _; rfl)); (focus (intro β wx hSw; (try dsimp only at hSw); go_simp; (try with_reducible rfl); done)); (try simp only [Act.put, List.setIfInBounds_toArray, List.set_cons_zero, List.set_cons_succ, Nat.reduceAdd])) | ((with_reducible refine Flow.skip StayG.nil ?_ ?_ ?_); (focus kernel_rfl); (focus (intro _; rfl)); (try simp only [Act.put, List.setIfInBounds_toArray, List.set_cons_zero, List.set_cons_succ, Nat.reduceAdd]))))
        ((with_reducible refine Flow.stop ?_); dsimp only; intro β w10 hI10)
        have HB10 := Lib.hid (HBR.out.trans (hI10.below.mono HBR.out.size))
        clear hS hI10 hwj
        go_wp2_with fail
        go_roundg (gk - 1)
        case measure => omega
        case rel => exact ⟨k + 1, by omega, by omega, by go_num, HB10.out, fun r hr => by
          rcases Nat.lt_succ_iff_lt_or_eq.1 hr with h | h
          · exact HALL.out r h
          · subst h; exact HEND.out⟩
    · obtain rfl : k = t.after.length := by omega
      have HE := Lib.hid (HYES.out HALL.out)
      go_wp2_with fail
      go_ret
      exact retB (vbool HE.out.symm) (HBX.out.trans (HBR.out.mono HBX.out.size))
/-! ### ShpRc -/
def canP (t : Tk) (s : Sh) : Prop := t.skill.toNat < s.staff.length ∧ 0 < ig s.staff t.skill.toNat ∧ (t.bay = true → 0 < s.bays)
noncomputable def canQ (t : Tk) (s : Sh) : Bool := @decide (canP t s) (Classical.propDecidable _)
theorem canQ_iff (t : Tk) (s : Sh) : canQ t s = true ↔ canP t s := by
  unfold canQ
  exact @decide_eq_true_iff _ (Classical.propDecidable _)
theorem canQ_no {t : Tk} {s : Sh} (h : ¬ canP t s) : canQ t s = false := @decide_eq_false _ (Classical.propDecidable _) h
theorem canB_P {t : Tk} {s : Sh} (h0 : 0 ≤ t.skill) (h8 : t.skill < 8) (hs : VS s) : canB s t = true ↔ canP t s := by
  have h8' : t.skill.toNat < 8 := by omega
  have e : fitsP (addL ld0 t.skill.toNat t.bay 1) s ↔ canP t s := by
    unfold fitsP canP
    have hb : (addL ld0 t.skill.toNat t.bay 1).b = if t.bay then 1 else 0 := by
      show (if t.bay then (0 : Int) + 1 else 0) = _
      cases t.bay <;> rfl
    rw [hb]
    constructor
    · rintro ⟨a, b⟩
      have h1 := a _ h8' (by rw [addL_ig _ _ _ _ h8', if_pos rfl, ld0_ig]; omega)
      rw [addL_ig _ _ _ _ h8', if_pos rfl, ld0_ig] at h1
      refine ⟨h1.1, by omega, fun hb => ?_⟩
      rw [hb, if_pos rfl] at b
      omega
    · rintro ⟨a, b, c⟩
      refine ⟨fun k hk h1 => ?_, ?_⟩
      · rw [addL_ig _ _ _ _ h8', ld0_ig, ld0_ig] at h1 ⊢
        by_cases e : t.skill.toNat = k
        · subst e
          rw [if_pos rfl]
          exact ⟨a, by omega⟩
        · rw [if_neg e] at h1
          omega
      · cases hbb : t.bay
        · simp only [Bool.false_eq_true, if_false]
          exact hs.2.2.1
        · have := c hbb
          simp only [if_true]
          omega
  unfold canB
  rw [← e]
  unfold fitsB
  exact @decide_eq_true_iff _ (Classical.propDecidable _)
set_option maxRecDepth 100000 in
set_option maxHeartbeats 4000000 in
theorem rcan_any (t : Tk) (a : Option Addr) (cap usk : Nat) (s : Sh) (sa : Option Addr) (sc : Nat) (w : World) (hI : Ints w sa s.staff) (hs : t.skill = usk) :
    Calls Try.prog 35 #[tkV t a cap, shV s sa sc] w (RetB (.bool (canQ t s)) w) := by
  obtain ⟨q, hq⟩ : ∃ n, n = s.staff.length := ⟨_, rfl⟩
  obtain ⟨bs, hbs⟩ : ∃ n, n = s.bays := ⟨_, rfl⟩
  obtain ⟨r, hr⟩ : ∃ r, r = canQ t s := ⟨_, rfl⟩
  have HI := Lib.hid hI
  have HQ := Lib.hid hq
  have HBS := Lib.hid hbs
  have HR := Lib.hid hr
  have HSK := Lib.hid hs
  obtain ⟨ta, hta⟩ : ∃ x, x = t.after.length := ⟨_, rfl⟩
  obtain ⟨th, hth⟩ : ∃ x, x = t.hours := ⟨_, rfl⟩
  obtain ⟨bay, hbay⟩ : ∃ x, x = t.bay := ⟨_, rfl⟩
  have HBAY := Lib.hid hbay
  have htn : t.skill.toNat = usk := by rw [hs]; rfl
  have HTN := Lib.hid htn
  unfold tkV shV
  rw [← hq, ← hbs, ← hr, hs, ← hta, ← hth, ← hbay]
  clear hI hq hbs hr hs hta hth hbay htn
  go_enter Try.func35, Try.ntmps35
  go_upto_region 1 with fail
  obtain ⟨wX, T, P, hP, hbX, hBT, hBX, hwX⟩ : ∃ wX T P, (T = w.heap.size ∧ P = w.heap.size + 1) ∧ Below w.heap.size w wX ∧ BoxAt wX T [.int .i64 th, .int .i64 usk, .bool bay, .slice a ta cap] ∧ BoxAt wX P [.slice sa q sc, .int .i64 bs] ∧ wX = (w.alloc (.cells #[.int .i64 th, .int .i64 usk, .bool bay, .slice a ta cap] 38)).alloc (.cells #[.slice sa q sc, .int .i64 bs] 25) := ⟨_, _, _, ⟨rfl, rfl⟩, ((Below.refl _ _).alloc (Nat.le_refl _) _).alloc (by simp) _, (BoxAt.new w _ _).alloc _, by
    have h := BoxAt.new (w.alloc (.cells #[.int .i64 th, .int .i64 usk, .bool bay, .slice a ta cap] 38)) [.slice sa q sc, .int .i64 bs] 25
    rw [World.size_alloc] at h
    exact h, rfl⟩
  rw [← hwX, ← hP.2, ← hP.1]
  have HBX := Lib.hid hbX
  have t1 := (hBT 1 _ rfl).1
  have t2 := (hBT 2 _ rfl).1
  have p0 := (hBX 0 _ rfl).1
  have p1 := (hBX 1 _ rfl).1
  clear hP hbX hBT hBX hwX
  by_cases h1 : usk < q
  · obtain ⟨vb, vo, rfl, fv⟩ := (HI.out.later HBX.out).fam (by rw [← HQ.out]; omega)
    have cv := fv usk (by rw [← HQ.out]; exact h1)
    obtain ⟨v, hv⟩ : ∃ v, v = ig s.staff usk := ⟨_, rfl⟩
    rw [← hv] at cv
    have HVE := Lib.hid hv
    have n1 : (usk : Int) < (q : Int) := by omega
    have n0 : (0 : Int) ≤ (usk : Int) := by omega
    clear fv hv
    by_cases h2 : 0 < v
    · cases bay
      · have HE := Lib.hid (show r = true from by rw [HR.out, canQ_iff]; exact ⟨by rw [HTN.out, ← HQ.out]; exact h1, by rw [HTN.out, ← HVE.out]; exact h2, fun h => by rw [← HBAY.out] at h; cases h⟩)
        go_wp2_with fail
        go_ret
        exact retB (vbool HE.out.symm) HBX.out
      · by_cases h3 : 0 < bs
        · have HE := Lib.hid (show r = true from by rw [HR.out, canQ_iff]; exact ⟨by rw [HTN.out, ← HQ.out]; exact h1, by rw [HTN.out, ← HVE.out]; exact h2, fun _ => by rw [← HBS.out]; exact h3⟩)
          go_wp2_with fail
          go_ret
          exact retB (vbool HE.out.symm) HBX.out
        · have HE := Lib.hid (show r = false from by rw [HR.out]; exact canQ_no fun h => h3 (by rw [HBS.out]; exact h.2.2 HBAY.out.symm))
          go_wp2_with fail
          go_ret
          exact retB (vbool HE.out.symm) HBX.out
    · have HE := Lib.hid (show r = false from by rw [HR.out]; exact canQ_no fun h => h2 (by rw [HVE.out, ← HTN.out]; exact h.2.1))
      go_wp2_with fail
      go_ret
      exact retB (vbool HE.out.symm) HBX.out
  · have HE := Lib.hid (show r = false from by rw [HR.out]; exact canQ_no fun h => h1 (by rw [HQ.out, ← HTN.out]; exact h.1))
    go_wp2_with fail
    go_ret
    exact retB (vbool HE.out.symm) HBX.out
section
variable {l : List Tk} {s : Sh} {st : List Int}
/-- the reference's test of one task -/
def refOk (l : List Tk) (s : Sh) (st : List Int) (i : Nat) : Prop := canP (tg l i) s ∧ endB l st (tg l i).after (ig st i) = true ∧
  (cR l st (ig st i) (isS l (tg l i).skill.toNat) : Int) ≤ ig s.staff (tg l i).skill.toNat ∧ ((tg l i).bay = true → (cR l st (ig st i) (isB l) : Int) ≤ s.bays)
theorem endB_iff {h : Int} {A : List Int} : endB l st A h = true ↔ ∀ a ∈ A, 0 ≤ ig st a.toNat ∧ endAt l st a.toNat ≤ h := by
  unfold endB
  rw [List.all_eq_true]
  constructor
  · intro hh a ha
    simpa using hh a ha
  · intro hh a ha
    simpa using hh a ha
theorem HO.pos (ho : HO l st) {k : Nat} (hk : k < l.length) : 0 ≤ ig st k ∧ ig st k ≤ 9999999 := ho.2 _ (ig_mem (by rw [ho.1]; exact hk))
theorem self_runs (hv : VT l) {i : Nat} (hi : i < l.length) : runs l st (ig st i) i = true := runs_iff.2 ⟨Int.le_refl _, end_gt hv hi⟩
theorem chk_ref (hv : VT l) (hs : VS s) (ho : HO l st) : (∀ i, i < l.length → goodAt l s st i) ↔ ∀ i, i < l.length → refOk l s st i := by
  constructor
  · intro h i hi
    obtain ⟨g1, g2⟩ := h i hi
    rw [late_iff] at g1
    rw [fitsU_iff hv] at g2
    have h8 := hv.skill hi
    have p1 : 0 < cR l st (ig st i) (isS l (tg l i).skill.toNat) := cntP_one hi (by rw [Bool.and_eq_true]; exact ⟨self_runs hv hi, decide_eq_true rfl⟩)
    obtain ⟨a1, a2⟩ := g2.1 _ h8 p1
    refine ⟨⟨a1, by omega, fun hb => ?_⟩, endB_iff.2 fun a ha => ⟨(ho.pos (after_ok hv hi ha)).1, g1 a ha⟩, a2, fun _ => g2.2⟩
    have p2 : 0 < cR l st (ig st i) (isB l) := cntP_one hi (by rw [Bool.and_eq_true]; exact ⟨self_runs hv hi, hb⟩)
    have := g2.2
    omega
  · intro h i hi
    obtain ⟨c, e, _, _⟩ := h i hi
    refine ⟨late_iff.2 fun a ha => (endB_iff.1 e a ha).2, (fitsU_iff hv).2 ⟨fun sk hsk h0 => ?_, ?_⟩⟩
    · obtain ⟨j, hj, hp⟩ := cntP_pos h0
      rw [Bool.and_eq_true] at hp
      have ej : (tg l j).skill.toNat = sk := of_decide_eq_true hp.2
      have hlt := (h j hj).1.1
      rw [ej] at hlt
      refine ⟨hlt, cap_R hv (hs.2.1 _ (ig_mem hlt)).1 (fun k hk hq => ?_) _⟩
      have ek : (tg l k).skill.toNat = sk := of_decide_eq_true hq
      have := (h k hk).2.2.1
      rw [ek] at this
      exact this
    · exact cap_R hv hs.2.2.1 (fun k hk hq => (h k hk).2.2.2 hq) _
theorem rS_cR (hv : VT l) (ho : HO l st) {h : Int} {i : Nat} (hi : i < l.length) : cntP (rS l st h (tg l i).skill) l.length = cR l st h (isS l (tg l i).skill.toNat) := cntP_congr fun k hk => by
  unfold rS rr isS
  rw [decide_eq_true (ho.pos hk).1, Bool.true_and]
  congr 1
  have := (hv.2 k hk).2.2.1
  have := (hv.2 i hi).2.2.1
  rw [Bool.eq_iff_iff, decide_eq_true_eq, decide_eq_true_eq]
  omega
theorem rB_cR (ho : HO l st) {h : Int} : cntP (rB l st h) l.length = cR l st h (isB l) := cntP_congr fun k hk => by
  unfold rB rr isB
  rw [decide_eq_true (ho.pos hk).1, Bool.true_and]
end
/-! ### ShpRd -/
theorem lnB_no {l : List Tk} {st : List Int} (h : ¬ (VT l ∧ HO l st)) : lnN l st = 0 ∧ lnE l st = 1 := by
  have e : lnB l st = false := by
    cases hb : lnB l st
    · rfl
    · unfold lnB at hb
      rw [Bool.and_eq_true] at hb
      exact absurd ⟨(vB_iff l).1 hb.1, (hoB_iff l st).1 hb.2⟩ h
  unfold lnN lnE
  rw [e]
  exact ⟨rfl, rfl⟩
theorem ln_yes {l : List Tk} {st : List Int} (hv : VT l) (ho : HO l st) : lnN l st = lenU l st l.length ∧ lnE l st = 0 := by
  have e : lnB l st = true := by unfold lnB; rw [(vB_iff l).2 hv, (hoB_iff l st).2 ho]; rfl
  unfold lnN lnE
  rw [if_pos e, if_pos e]
  exact ⟨rfl, rfl⟩
set_option maxRecDepth 100000 in
set_option maxHeartbeats 4000000 in
theorem rlength_any (l : List Tk) (a : Option Addr) (cap : Nat) (st : List Int) (ia : Option Addr) (ic : Nat) (w : World) (hT : Tasks w a l) (hl : l.length < 9223372036854775808) (hS : l.length ≤ 40 → ∀ i, i < l.length → (tg l i).after.length < 9223372036854775808) (hJ : Ints w ia st) (hs : st.length ≤ 45) :
    Calls Try.prog 15 #[.slice a l.length cap, .slice ia st.length ic] w (RetNE (lnN l st) (lnE l st) w) := by
  obtain ⟨v, hv⟩ : ∃ v, v = vB l := ⟨_, rfl⟩
  obtain ⟨n, hn⟩ : ∃ n, n = l.length := ⟨_, rfl⟩
  obtain ⟨m, hm⟩ : ∃ n, n = st.length := ⟨_, rfl⟩
  obtain ⟨rn, hrn⟩ : ∃ n, n = lnN l st := ⟨_, rfl⟩
  obtain ⟨re, hre⟩ : ∃ n, n = lnE l st := ⟨_, rfl⟩
  have HV := Lib.hid (show Calls Try.prog 33 #[.slice a n cap] w (RetB (.bool v) w) from by
    rw [hn]
    exact rvalid_any l a cap v w hT hl hS (by rw [hv]; exact vB_iff l))
  have HT := Lib.hid hT
  have HJ := Lib.hid hJ
  have HN := Lib.hid hn
  have HM := Lib.hid hm
  have HRN := Lib.hid hrn
  have HRE := Lib.hid hre
  have HVE := Lib.hid hv
  have HNO := Lib.hid (show ¬ (VT l ∧ HO l st) → rn = 0 ∧ re = 1 from fun h => by rw [hrn, hre]; exact lnB_no h)
  have HYES := Lib.hid (show VT l → HO l st → rn = lenU l st l.length ∧ re = 0 from fun h1 h2 => by rw [hrn, hre]; exact ln_yes h1 h2)
  rw [← hm] at hs
  rw [← hn, ← hm, ← hrn, ← hre]
  clear hv hT hl hS hJ hn hm hrn hre
  go_enter Try.func15, Try.ntmps15
  go_wp2_with fail
  refine Calls.mono HV.out ?_
  rintro e w1 ⟨rfl, hb1⟩
  have HB1 := Lib.hid hb1
  clear hb1
  cases v
  · obtain ⟨rfl, rfl⟩ := HNO.out fun h => by
      have := (vB_iff l).2 h.1
      rw [← HVE.out] at this
      cases this
    go_wp2_with fail
    go_ret2
    exact ⟨rfl, HB1.out⟩
  have hvt := (vB_iff l).1 HVE.out.symm
  have HVT := Lib.hid hvt
  have h40 : n ≤ 40 := by rw [HN.out]; exact hvt.1
  clear hvt
  by_cases hmn : m = n
  case neg =>
    have hne : ((m : Int) != (n : Int)) = true := bne_iff_ne.2 (by omega)
    obtain ⟨rfl, rfl⟩ := HNO.out fun h => hmn (by rw [HM.out, HN.out]; exact h.2.1)
    go_wp2_with fail
    go_ret2
    exact ⟨rfl, HB1.out⟩
  have hne : ((m : Int) != (n : Int)) = false := by rw [hmn]; simp
  subst hmn
  go_wp2_with fail
  clear hne
  go_loopg [6, 7] (m + 1) (fun gk v6 v7 wr => ∃ i : Nat, i ≤ m ∧ gk + i = m + 1 ∧ v7 = .int .i64 i ∧ v6 = .int .i64 (lenU l st i) ∧ Below w.heap.size w wr ∧ ∀ k, k < i → 0 ≤ ig st k ∧ ig st k ≤ 9999999)
  case atStart => exact ⟨0, by omega, by omega, rfl, rfl, HB1.out, fun k hk => absurd hk (by omega)⟩
  case round =>
    obtain ⟨i, hi, hgi, rfl, rfl, hbr, hall⟩ := hrel
    have HBR := Lib.hid hbr
    have HALL := Lib.hid hall
    clear hall
    by_cases hlt : i < m
    · have hiL : i < l.length := by rw [← HN.out]; exact hlt
      have hiS : i < st.length := by rw [← HM.out]; exact hlt
      obtain ⟨tb, tf, aa, ac, rfl, b0, _, _, _, _⟩ := (HT.out.later hbr) i hiL
      obtain ⟨jb, jo, rfl, fi⟩ := (HJ.out.later hbr).fam (by omega)
      have ci := fi i hiS
      have htk := HVT.out.2 i hiL
      have hmx : lenU l st (i + 1) = max (lenU l st i) (ig st i + (tg l i).hours) := rfl
      obtain ⟨u, hu⟩ : ∃ u, u = lenU l st i := ⟨_, rfl⟩
      obtain ⟨x, hx⟩ : ∃ x, x = ig st i := ⟨_, rfl⟩
      obtain ⟨y, hy⟩ : ∃ y, y = (tg l i).hours := ⟨_, rfl⟩
      have h1 := htk.1
      have h2 := htk.2.1
      rw [← hu, ← hx, ← hy] at hmx
      rw [← hx] at ci
      rw [← hy] at b0 h1 h2
      rw [← hu]
      have n1 : (i : Int) < (m : Int) := by omega
      have n0 : (0 : Int) ≤ (i : Int) := by omega
      have HMX := Lib.hid hmx
      have HXE := Lib.hid hx
      have HNH := Lib.hid (show ¬ (0 ≤ x ∧ x ≤ 9999999) → rn = 0 ∧ re = 1 from fun hno => HNO.out fun hh => hno (by
        have := hh.2.2 _ (ig_mem hiS)
        rw [← hx] at this
        exact this))
      have hS : ∀ wy : World, Below wr.heap.size wr wy → wy.cell? ⟨tb, tf + i * 4, none⟩ = some (.int .i64 y) ∧ wy.cell? ⟨jb, jo + i, none⟩ = some (.int .i64 x) := fun wy hy => ⟨cell_later hy b0, cell_later hy ci⟩
      have HS := Lib.hid hS
      clear hu hx hy fi htk hmx hiL hiS hbr hS b0
      by_cases hx0 : x < 0
      · obtain ⟨rfl, rfl⟩ := HNH.out (by omega)
        go_wp2_with fail
        go_ret2
        exact ⟨rfl, HBR.out⟩
      by_cases hx1 : 9999999 < x
      · obtain ⟨rfl, rfl⟩ := HNH.out (by omega)
        go_wp2_with fail
        go_ret2
        exact ⟨rfl, HBR.out⟩
      have hw1 : IntKind.i64.wrap (x + y) = x + y := IntWalk.i64_in _ (by omega)
      have HXB := Lib.hid (show 0 ≤ ig st i ∧ ig st i ≤ 9999999 from by rw [← HXE.out]; omega)
      go_upto_region 9 with fail
      have hS := HS.out
      clear ci h1 h2
      (refine wp_flow_s [] [] (by kernel_rfl) (by kernel_rfl) (by kernel_rfl) ?_; repeat (first | ((with_reducible refine Flow.pure hS StayG.nil (v := ?_) ?_ ?_ ?_ ?_); rotate_left 1; (focus kernel_rfl); (focus (intro _; rfl)); (focus (intro β wx hSw; (try dsimp only at hSw); go_simp; (try with_reducible rfl); done)); (try simp only [Act.put, List.setIfInBounds_toArray, List.set_cons_zero, List.set_cons_succ, Nat.reduceAdd])) | ((with_reducible refine Flow.skip StayG.nil ?_ ?_ ?_); (focus kernel_rfl); (focus (intro _; rfl)); (try simp only [Act.put, List.setIfInBounds_toArray, List.set_cons_zero, List.set_cons_succ, Nat.reduceAdd]))))
      ((with_reducible refine Flow.stop ?_); dsimp only; intro β w9 hI9)
      have HB9 := Lib.hid (HBR.out.trans (hI9.below.mono HBR.out.size))
      clear hS hI9
      go_wp2_with fail
      go_roundg (gk - 1)
      case measure => omega
      case rel => exact ⟨i + 1, by omega, by omega, by go_num, by rw [HMX.out], HB9.out, fun k hk => by
        rcases Nat.lt_succ_iff_lt_or_eq.1 hk with h | h
        · exact HALL.out k h
        · subst h; exact HXB.out⟩
    · obtain rfl : i = m := by omega
      have ho : HO l st := ⟨by rw [← HM.out, ← HN.out], fun x hx => by
        obtain ⟨k, hk, rfl⟩ := List.getElem_of_mem hx
        have := HALL.out k (by rw [HM.out]; exact hk)
        rw [ig_lt hk] at this
        exact this⟩
      obtain ⟨h1, rfl⟩ := HYES.out HVT.out ho
      rw [HN.out, ← h1]
      clear h1 ho hlt hbr
      go_wp2_with fail
      go_ret2
      exact ⟨rfl, HBR.out⟩
set_option maxRecDepth 100000 in
set_option maxHeartbeats 4000000 in
theorem rcheck_any (l : List Tk) (a : Option Addr) (cap : Nat) (s : Sh) (sa : Option Addr) (sc : Nat) (st : List Int) (ia : Option Addr) (ic : Nat) (w : World) (hT : Tasks w a l) (hl : l.length < 9223372036854775808) (hS : l.length ≤ 40 → ∀ i, i < l.length → (tg l i).after.length < 9223372036854775808) (hI : Ints w sa s.staff) (hq20 : s.staff.length ≤ 20) (hJ : Ints w ia st) (hs : st.length ≤ 45) :
    Calls Try.prog 18 #[.slice a l.length cap, shV s sa sc, .slice ia st.length ic] w (RetB (.bool (chkB l s st)) w) := by
  obtain ⟨v, hv⟩ : ∃ v, v = vB l := ⟨_, rfl⟩
  obtain ⟨vs, hvs⟩ : ∃ v, v = vsV s := ⟨_, rfl⟩
  obtain ⟨n, hn⟩ : ∃ n, n = l.length := ⟨_, rfl⟩
  obtain ⟨m, hm⟩ : ∃ n, n = st.length := ⟨_, rfl⟩
  obtain ⟨q, hq⟩ : ∃ n, n = s.staff.length := ⟨_, rfl⟩
  obtain ⟨bs, hbs⟩ : ∃ n, n = s.bays := ⟨_, rfl⟩
  obtain ⟨r, hr⟩ : ∃ r, r = chkB l s st := ⟨_, rfl⟩
  have HV := Lib.hid (show ∀ wy, Below w.heap.size w wy → Calls Try.prog 33 #[.slice a n cap] wy (RetB (.bool v) wy) from fun wy hy => by
    rw [hn]
    exact rvalid_any l a cap v wy (hT.later hy) hl hS (by rw [hv]; exact vB_iff l))
  have HW := Lib.hid (show ∀ wy, Below w.heap.size w wy → Calls Try.prog 20 #[.agg #[.slice sa q sc, .int .i64 bs]] wy (RetB (.bool vs) wy) from fun wy hy => by
    rw [hvs, hq, hbs]
    exact rshop_any s sa sc wy (hI.later hy) hq20)
  have HT := Lib.hid hT
  have HI := Lib.hid hI
  have HJ := Lib.hid hJ
  have HN := Lib.hid hn
  have HM := Lib.hid hm
  have HQ := Lib.hid hq
  have HBS := Lib.hid hbs
  have HVE := Lib.hid hv
  have HVSE := Lib.hid hvs
  have HNO := Lib.hid (show ¬ chkP l s st → r = false from fun h => by rw [hr]; exact chkB_no h)
  have HYES := Lib.hid (show chkP l s st → r = true from fun h => by rw [hr]; exact chkB_yes h)
  rw [← hm] at hs
  unfold shV
  rw [← hn, ← hm, ← hq, ← hbs, ← hr]
  clear hv hvs hT hl hS hI hJ hn hm hq hbs hr hq20
  go_enter Try.func18, Try.ntmps18
  go_upto_region 1 with fail
  obtain ⟨wX, P, hP, hbX, hBX, hwX⟩ : ∃ wX P, P = w.heap.size ∧ Below w.heap.size w wX ∧ BoxAt wX P [.slice sa q sc, .int .i64 bs] ∧ wX = w.alloc (.cells #[.slice sa q sc, .int .i64 bs] 25) := ⟨_, _, rfl, (Below.refl _ _).alloc (Nat.le_refl _) _, BoxAt.new w _ _, rfl⟩
  rw [← hwX, ← hP]
  have HBX := Lib.hid hbX
  have HX := Lib.hid hBX
  clear hP hbX hBX hwX
  go_wp2_with fail
  refine Calls.mono (HV.out wX HBX.out) ?_
  rintro e w1 ⟨rfl, hb1⟩
  have HB1 := Lib.hid (HBX.out.trans (hb1.mono HBX.out.size))
  have HX1 := Lib.hid (HX.out.later hb1)
  have c0 := (HX1.out 0 _ rfl).1
  have c1 := (HX1.out 1 _ rfl).1
  clear hb1 HX HBX
  cases v
  · have HE := Lib.hid (HNO.out fun h => by
      have := (vB_iff l).2 h.1
      rw [← HVE.out] at this
      cases this)
    go_wp2_with fail
    go_ret
    exact retB (vbool HE.out.symm) HB1.out
  go_wp2_with fail
  refine Calls.mono (HW.out w1 HB1.out) ?_
  rintro e w2 ⟨rfl, hb2⟩
  have HB2 := Lib.hid (HB1.out.trans (hb2.mono HB1.out.size))
  have HX2 := Lib.hid (HX1.out.later hb2)
  clear hb2 c0 c1 HX1
  cases vs
  · have HE := Lib.hid (HNO.out fun h => by
      have := (vsV_iff s).2 h.2.1
      rw [← HVSE.out] at this
      cases this)
    go_wp2_with fail
    go_ret
    exact retB (vbool HE.out.symm) HB2.out
  have HVT := Lib.hid ((vB_iff l).1 HVE.out.symm)
  have HVS := Lib.hid ((vsV_iff s).1 HVSE.out.symm)
  have h40 : n ≤ 40 := by rw [HN.out]; exact HVT.out.1
  by_cases hmn : m = n
  case neg =>
    have hne : ((m : Int) != (n : Int)) = true := bne_iff_ne.2 (by omega)
    have HE := Lib.hid (HNO.out fun h => hmn (by rw [HM.out, HN.out]; exact h.2.2.1.1))
    go_wp2_with fail
    go_ret
    exact retB (vbool HE.out.symm) HB2.out
  have hne : ((m : Int) != (n : Int)) = false := by rw [hmn]; simp
  subst hmn
  go_upto_region 4 with fail
  clear hne
  go_loopg [7] (m + 1) (fun gk v7 wr => ∃ i : Nat, i ≤ m ∧ gk + i = m + 1 ∧ v7 = .int .i64 i ∧ w2 = wr ∧ ∀ k, k < i → 0 ≤ ig st k ∧ ig st k ≤ 9999999)
  case atStart => exact ⟨0, by omega, by omega, rfl, rfl, fun k hk => absurd hk (by omega)⟩
  case round =>
    obtain ⟨i, hi, hgi, rfl, rfl, hall⟩ := hrel
    have HALL := Lib.hid hall
    clear hall
    by_cases hlt : i < m
    · have hiS : i < st.length := by rw [← HM.out]; exact hlt
      obtain ⟨jb, jo, rfl, fi⟩ := (HJ.out.later HB2.out).fam (by omega)
      have ci := fi i hiS
      obtain ⟨x, hx⟩ : ∃ x, x = ig st i := ⟨_, rfl⟩
      rw [← hx] at ci
      have n1 : (i : Int) < (m : Int) := by omega
      have n0 : (0 : Int) ≤ (i : Int) := by omega
      have HXE := Lib.hid hx
      have HNH := Lib.hid (show ¬ (0 ≤ x ∧ x ≤ 9999999) → r = false from fun hno => HNO.out fun hh => hno (by
        have := hh.2.2.1.2 _ (ig_mem hiS)
        rw [← hx] at this
        exact this))
      clear hx fi hiS
      by_cases hx0 : x < 0
      · have HE := Lib.hid (HNH.out (by omega))
        go_wp2_with fail
        go_ret
        exact retB (vbool HE.out.symm) HB2.out
      by_cases hx1 : 9999999 < x
      · have HE := Lib.hid (HNH.out (by omega))
        go_wp2_with fail
        go_ret
        exact retB (vbool HE.out.symm) HB2.out
      have HXB := Lib.hid (show 0 ≤ ig st i ∧ ig st i ≤ 9999999 from by rw [← HXE.out]; omega)
      go_wp2_with fail
      go_roundg (gk - 1)
      case measure => omega
      case rel => exact ⟨i + 1, by omega, by omega, by go_num, rfl, fun k hk => by
        rcases Nat.lt_succ_iff_lt_or_eq.1 hk with h | h
        · exact HALL.out k h
        · subst h; exact HXB.out⟩
    · obtain rfl : i = m := by omega
      have ho : HO l st := ⟨by rw [← HM.out, ← HN.out], fun x hx => by
        obtain ⟨k, hk, rfl⟩ := List.getElem_of_mem hx
        have := HALL.out k (by rw [HM.out]; exact hk)
        rw [ig_lt hk] at this
        exact this⟩
      have HHO := Lib.hid ho
      have HREF := Lib.hid (chk_ref HVT.out HVS.out ho)
      clear ho hlt
      go_upto_region 9 with fail
      go_loopg [8] (i + 1) (fun gk v8 wr => ∃ k : Nat, k ≤ i ∧ gk + k = i + 1 ∧ v8 = .int .i64 k ∧ Below w2.heap.size w2 wr ∧ ∀ j, j < k → refOk l s st j)
      case atStart => exact ⟨0, by omega, by omega, rfl, Below.refl _ _, fun j hj => absurd hj (by omega)⟩
      case round =>
        obtain ⟨k, hk, hgk, rfl, hbr, hall2⟩ := hrel
        have HBR := Lib.hid hbr
        have HALL2 := Lib.hid hall2
        clear hall2
        by_cases hlt : k < i
        · have hkL : k < l.length := by rw [← HN.out]; exact hlt
          have hkS : k < st.length := by rw [← HM.out]; exact hlt
          have hbw := HB2.out.trans (hbr.mono HB2.out.size)
          obtain ⟨tb, tf, aa, ac, rfl, b0, b1, b2, b3, hAI⟩ := HT.out k hkL
          obtain ⟨jb, jo, rfl, fi⟩ := HJ.out.fam (by omega)
          have ci := fi k hkS
          have htk := HVT.out.2 k hkL
          obtain ⟨usk, husk⟩ : ∃ u : Nat, (tg l k).skill = u := ⟨(tg l k).skill.toNat, by have := htk.2.2.1; omega⟩
          have hun : (tg l k).skill.toNat = usk := by rw [husk]; rfl
          have hcan := fun wy hy => rcan_any (tg l k) aa ac usk s sa sc wy (HI.out.later hy) husk
          have hend := fun wy hy => ended_any l (some ⟨tb, tf, none⟩) cap st (some ⟨jb, jo, none⟩) ic k aa ac (ig st k) wy (HT.out.later hy) HVT.out (HJ.out.later hy) HHO.out.st hkL (hAI.later hy)
          have hrun := fun wy hy => running_any l (some ⟨tb, tf, none⟩) cap st (some ⟨jb, jo, none⟩) ic (ig st k) (tg l k).skill wy (HT.out.later hy) HVT.out (HJ.out.later hy) HHO.out.st
          obtain ⟨cq, hcq⟩ : ∃ c, c = canQ (tg l k) s := ⟨_, rfl⟩
          obtain ⟨eb, heb⟩ : ∃ c, c = endB l st (tg l k).after (ig st k) := ⟨_, rfl⟩
          obtain ⟨p, hp⟩ : ∃ c, c = cR l st (ig st k) (isS l (tg l k).skill.toNat) := ⟨_, rfl⟩
          obtain ⟨pb, hpb⟩ : ∃ c, c = cR l st (ig st k) (isB l) := ⟨_, rfl⟩
          obtain ⟨v, hv⟩ : ∃ v, v = ig s.staff usk := ⟨_, rfl⟩
          obtain ⟨x, hx⟩ : ∃ x, x = ig st k := ⟨_, rfl⟩
          obtain ⟨ta, hta⟩ : ∃ x, x = (tg l k).after.length := ⟨_, rfl⟩
          obtain ⟨th, hth⟩ : ∃ x, x = (tg l k).hours := ⟨_, rfl⟩
          obtain ⟨bay, hbay⟩ : ∃ x, x = (tg l k).bay := ⟨_, rfl⟩
          have HOKI := Lib.hid (show refOk l s st k ↔ (cq = true ∧ eb = true ∧ (p : Int) ≤ v ∧ (bay = true → (pb : Int) ≤ bs)) from by
            unfold refOk
            rw [hcq, canQ_iff, heb, hp, hpb, hv, hbay, HBS.out, hun])
          have HCQQ := Lib.hid (show cq = true → usk < q from fun h => by
            rw [hcq, canQ_iff] at h
            have := h.1
            rw [hun, ← HQ.out] at this
            exact this)
          have hrs : cntP (rS l st (ig st k) (tg l k).skill) l.length = p := by rw [hp]; exact rS_cR HVT.out HHO.out hkL
          have hrb : cntP (rB l st (ig st k)) l.length = pb := by rw [hpb]; exact rB_cR HHO.out
          have HCAN := Lib.hid (show ∀ wy, Below w.heap.size w wy → Calls Try.prog 35 #[.agg #[.int .i64 th, .int .i64 usk, .bool bay, .slice aa ta ac], .agg #[.slice sa q sc, .int .i64 bs]] wy (RetB (.bool cq) wy) from fun wy hy => by
            have h := hcan wy hy
            unfold tkV shV at h
            rw [← hcq, husk, ← hta, ← hth, ← hbay, ← HQ.out, ← HBS.out] at h
            exact h)
          have HEND := Lib.hid (show ∀ wy, Below w.heap.size w wy → Calls Try.prog 36 #[.slice (some ⟨tb, tf, none⟩) i cap, .slice (some ⟨jb, jo, none⟩) i ic, .agg #[.int .i64 th, .int .i64 usk, .bool bay, .slice aa ta ac], .int .i64 x] wy (RetB (.bool eb) wy) from fun wy hy => by
            have h := hend wy hy
            unfold tkV at h
            rw [← heb, husk, ← hta, ← hth, ← hbay, ← hx, ← HM.out, ← HN.out] at h
            exact h)
          have HRUN := Lib.hid (show ∀ wy, Below w.heap.size w wy → Calls Try.prog 37 #[.slice (some ⟨tb, tf, none⟩) i cap, .slice (some ⟨jb, jo, none⟩) i ic, .int .i64 x, .int .i64 usk] wy (RetNN p pb wy) from fun wy hy => by
            have h := hrun wy hy
            rw [hrs, hrb, husk, ← hx, ← HM.out, ← HN.out] at h
            exact h)
          rw [husk] at b1
          rw [← hx] at ci
          rw [← hta] at b3
          rw [← hth] at b0
          rw [← hbay] at b2
          have HVE2 := Lib.hid hv
          have HNOK := Lib.hid (show ¬ refOk l s st k → r = false from fun hno => HNO.out fun hh => hno ((HREF.out.1 hh.2.2.2) k hkL))
          have n1 : (k : Int) < (i : Int) := by omega
          have n0 : (0 : Int) ≤ (k : Int) := by omega
          have p0 := ((HX2.out.later hbr) 0 _ rfl).1
          have p1 := ((HX2.out.later hbr) 1 _ rfl).1
          have hSO : ∀ wy : World, Below wr.heap.size wr wy → wy.cell? ⟨tb, tf + k * 4, none⟩ = some (.int .i64 th) ∧ wy.cell? ⟨tb, tf + k * 4 + 1, none⟩ = some (.int .i64 usk) ∧ wy.cell? ⟨tb, tf + k * 4 + 2, none⟩ = some (.bool bay) ∧ wy.cell? ⟨tb, tf + k * 4 + 3, none⟩ = some (.slice aa ta ac) ∧ wy.cell? ⟨jb, jo + k, none⟩ = some (.int .i64 x) ∧ wy.cell? ⟨P, 0, none⟩ = some (.slice sa q sc) ∧ wy.cell? ⟨P, 1, none⟩ = some (.int .i64 bs) := fun wy hy => by
            have hz := hbw.trans (hy.mono hbw.size)
            exact ⟨cell_later hz b0, cell_later hz b1, cell_later hz b2, cell_later hz b3, cell_later hz ci, cell_later hy p0, cell_later hy p1⟩
          have HSO := Lib.hid hSO
          have HBW := Lib.hid hbw
          clear hcan hend hrun hcq heb hp hpb hv hx hta hth hbay hrs hrb fi htk husk hun hAI b0 b1 b2 b3 ci hkL hkS p0 p1 hSO hbr hbw
          go_upto_region 11 with fail
          have hS := HSO.out
          refine wp_flow_s [] [] (by kernel_rfl) (by kernel_rfl) (by kernel_rfl) ?_
          repeat (first | ((with_reducible refine Flow.pure hS StayG.nil (v := ?_) ?_ ?_ ?_ ?_); rotate_left 1; (focus kernel_rfl); (focus (intro _; rfl)); (focus (intro β wx hSw; (try dsimp only at hSw); go_simp; (try with_reducible rfl); done)); (try simp only [Act.put, List.setIfInBounds_toArray, List.set_cons_zero, List.set_cons_succ, Nat.reduceAdd])) | ((with_reducible refine Flow.skip StayG.nil ?_ ?_ ?_); (focus kernel_rfl); (focus (intro _; rfl)); (try simp only [Act.put, List.setIfInBounds_toArray, List.set_cons_zero, List.set_cons_succ, Nat.reduceAdd])) | ((with_reducible refine Flow.call hS StayG.nil (v := ?_) ?_ ?_ ?_ ?_); rotate_left 1; (focus kernel_rfl); (focus (intro _; rfl)); (focus (intro β L wx hI hat hSw K' hK; (try dsimp only at hSw); go_simp; go_at_call 37; refine Calls.mono (HRUN.out wx (HBW.out.trans (hI.below.mono HBW.out.size))) ?_; rintro e w' ⟨rfl, hb'⟩; exact hK.out _ hb')); (try simp only [Act.put, List.setIfInBounds_toArray, List.set_cons_zero, List.set_cons_succ, Nat.reduceAdd])))
          ((with_reducible refine Flow.stop ?_); dsimp only; intro β w11 hI11)
          have HB11 := Lib.hid (HBR.out.trans (hI11.below.mono HBR.out.size))
          have HB11W := Lib.hid (HBW.out.trans (hI11.below.mono HBW.out.size))
          have HS11 := Lib.hid (fun (wy : World) (hy : Below w11.heap.size w11 wy) => HSO.out wy (hI11.below.trans (hy.mono hI11.below.size)))
          clear hS hI11 HSO
          go_upto_region 12 with fail
          cases cq
          · have HE := Lib.hid (HNOK.out fun h => by have := (HOKI.out.1 h).1; cases this)
            have hS := HS11.out
            refine wp_flow_s [] [] (by kernel_rfl) (by kernel_rfl) (by kernel_rfl) ?_
            repeat (first | ((with_reducible refine Flow.pure hS StayG.nil (v := ?_) ?_ ?_ ?_ ?_); rotate_left 1; (focus kernel_rfl); (focus (intro _; rfl)); (focus (intro β wx hSw; (try dsimp only at hSw); go_simp; (try with_reducible rfl); done)); (try simp only [Act.put, List.setIfInBounds_toArray, List.set_cons_zero, List.set_cons_succ, Nat.reduceAdd])) | ((with_reducible refine Flow.skip StayG.nil ?_ ?_ ?_); (focus kernel_rfl); (focus (intro _; rfl)); (try simp only [Act.put, List.setIfInBounds_toArray, List.set_cons_zero, List.set_cons_succ, Nat.reduceAdd])) | ((with_reducible refine Flow.call hS StayG.nil (v := ?_) ?_ ?_ ?_ ?_); rotate_left 1; (focus kernel_rfl); (focus (intro _; rfl)); (focus (intro β L wx hI hat hSw K' hK; (try dsimp only at hSw); go_simp; go_at_call 35; refine Calls.mono (HCAN.out wx (HB11W.out.trans (hI.below.mono HB11W.out.size))) ?_; rintro e w' ⟨rfl, hb'⟩; exact hK.out _ hb')); (try simp only [Act.put, List.setIfInBounds_toArray, List.set_cons_zero, List.set_cons_succ, Nat.reduceAdd])))
            ((with_reducible refine Flow.stop ?_); dsimp only; intro β w12 hI12)
            have HB12 := Lib.hid (HB11.out.trans (hI12.below.mono HB11.out.size))
            clear hS hI12
            go_wp2_with fail
            go_ret
            exact retB (vbool HE.out.symm) (HB2.out.trans (HB12.out.mono HB2.out.size))
          cases eb
          · have HE := Lib.hid (HNOK.out fun h => by have := (HOKI.out.1 h).2.1; cases this)
            have hS := HS11.out
            refine wp_flow_s [] [] (by kernel_rfl) (by kernel_rfl) (by kernel_rfl) ?_
            repeat (first | ((with_reducible refine Flow.pure hS StayG.nil (v := ?_) ?_ ?_ ?_ ?_); rotate_left 1; (focus kernel_rfl); (focus (intro _; rfl)); (focus (intro β wx hSw; (try dsimp only at hSw); go_simp; (try with_reducible rfl); done)); (try simp only [Act.put, List.setIfInBounds_toArray, List.set_cons_zero, List.set_cons_succ, Nat.reduceAdd])) | ((with_reducible refine Flow.skip StayG.nil ?_ ?_ ?_); (focus kernel_rfl); (focus (intro _; rfl)); (try simp only [Act.put, List.setIfInBounds_toArray, List.set_cons_zero, List.set_cons_succ, Nat.reduceAdd])) | ((with_reducible refine Flow.call hS StayG.nil (v := ?_) ?_ ?_ ?_ ?_); rotate_left 1; (focus kernel_rfl); (focus (intro _; rfl)); (focus (intro β L wx hI hat hSw K' hK; (try dsimp only at hSw); go_simp; go_at_call 35; refine Calls.mono (HCAN.out wx (HB11W.out.trans (hI.below.mono HB11W.out.size))) ?_; rintro e w' ⟨rfl, hb'⟩; exact hK.out _ hb')); (try simp only [Act.put, List.setIfInBounds_toArray, List.set_cons_zero, List.set_cons_succ, Nat.reduceAdd])) | ((with_reducible refine Flow.call hS StayG.nil (v := ?_) ?_ ?_ ?_ ?_); rotate_left 1; (focus kernel_rfl); (focus (intro _; rfl)); (focus (intro β L wx hI hat hSw K' hK; (try dsimp only at hSw); go_simp; go_at_call 36; refine Calls.mono (HEND.out wx (HB11W.out.trans (hI.below.mono HB11W.out.size))) ?_; rintro e w' ⟨rfl, hb'⟩; exact hK.out _ hb')); (try simp only [Act.put, List.setIfInBounds_toArray, List.set_cons_zero, List.set_cons_succ, Nat.reduceAdd])))
            ((with_reducible refine Flow.stop ?_); dsimp only; intro β w12 hI12)
            have HB12 := Lib.hid (HB11.out.trans (hI12.below.mono HB11.out.size))
            clear hS hI12
            go_wp2_with fail
            go_ret
            exact retB (vbool HE.out.symm) (HB2.out.trans (HB12.out.mono HB2.out.size))
          have h1 := HCQQ.out rfl
          obtain ⟨vb, vo, rfl, fv⟩ := HI.out.fam (by rw [← HQ.out]; omega)
          have cv0 := fv usk (by rw [← HQ.out]; exact h1)
          rw [← HVE2.out] at cv0
          have HSA := Lib.hid (show ∀ wy : World, Below w11.heap.size w11 wy → wy.cell? ⟨tb, tf + k * 4, none⟩ = some (.int .i64 th) ∧ wy.cell? ⟨tb, tf + k * 4 + 1, none⟩ = some (.int .i64 usk) ∧ wy.cell? ⟨tb, tf + k * 4 + 2, none⟩ = some (.bool bay) ∧ wy.cell? ⟨tb, tf + k * 4 + 3, none⟩ = some (.slice aa ta ac) ∧ wy.cell? ⟨jb, jo + k, none⟩ = some (.int .i64 x) ∧ wy.cell? ⟨P, 0, none⟩ = some (.slice (some ⟨vb, vo, none⟩) q sc) ∧ wy.cell? ⟨P, 1, none⟩ = some (.int .i64 bs) ∧ wy.cell? ⟨vb, vo + usk, none⟩ = some (.int .i64 v) from fun wy hy => by
            obtain ⟨d0, d1, d2, d3, d4, d5, d6⟩ := HS11.out wy hy
            exact ⟨d0, d1, d2, d3, d4, d5, d6, cell_later (HB11W.out.trans (hy.mono HB11W.out.size)) cv0⟩)
          have m1 : (usk : Int) < (q : Int) := by omega
          have m0 : (0 : Int) ≤ (usk : Int) := by omega
          clear h1 fv cv0
          by_cases hpv : v < (p : Int)
          · have HE := Lib.hid (HNOK.out fun h => by have := (HOKI.out.1 h).2.2.1; omega)
            have hS := HSA.out
            refine wp_flow_s [] [] (by kernel_rfl) (by kernel_rfl) (by kernel_rfl) ?_
            repeat (first | ((with_reducible refine Flow.pure hS StayG.nil (v := ?_) ?_ ?_ ?_ ?_); rotate_left 1; (focus kernel_rfl); (focus (intro _; rfl)); (focus (intro β wx hSw; (try dsimp only at hSw); go_simp; (try with_reducible rfl); done)); (try simp only [Act.put, List.setIfInBounds_toArray, List.set_cons_zero, List.set_cons_succ, Nat.reduceAdd])) | ((with_reducible refine Flow.skip StayG.nil ?_ ?_ ?_); (focus kernel_rfl); (focus (intro _; rfl)); (try simp only [Act.put, List.setIfInBounds_toArray, List.set_cons_zero, List.set_cons_succ, Nat.reduceAdd])) | ((with_reducible refine Flow.call hS StayG.nil (v := ?_) ?_ ?_ ?_ ?_); rotate_left 1; (focus kernel_rfl); (focus (intro _; rfl)); (focus (intro β L wx hI hat hSw K' hK; (try dsimp only at hSw); go_simp; go_at_call 35; refine Calls.mono (HCAN.out wx (HB11W.out.trans (hI.below.mono HB11W.out.size))) ?_; rintro e w' ⟨rfl, hb'⟩; exact hK.out _ hb')); (try simp only [Act.put, List.setIfInBounds_toArray, List.set_cons_zero, List.set_cons_succ, Nat.reduceAdd])) | ((with_reducible refine Flow.call hS StayG.nil (v := ?_) ?_ ?_ ?_ ?_); rotate_left 1; (focus kernel_rfl); (focus (intro _; rfl)); (focus (intro β L wx hI hat hSw K' hK; (try dsimp only at hSw); go_simp; go_at_call 36; refine Calls.mono (HEND.out wx (HB11W.out.trans (hI.below.mono HB11W.out.size))) ?_; rintro e w' ⟨rfl, hb'⟩; exact hK.out _ hb')); (try simp only [Act.put, List.setIfInBounds_toArray, List.set_cons_zero, List.set_cons_succ, Nat.reduceAdd])))
            ((with_reducible refine Flow.stop ?_); dsimp only; intro β w12 hI12)
            have HB12 := Lib.hid (HB11.out.trans (hI12.below.mono HB11.out.size))
            clear hS hI12
            go_wp2_with fail
            go_ret
            exact retB (vbool HE.out.symm) (HB2.out.trans (HB12.out.mono HB2.out.size))
          cases bay
          · have HR1 := Lib.hid (HOKI.out.2 ⟨rfl, rfl, by omega, fun h => by cases h⟩)
            have hS := HSA.out
            refine wp_flow_s [] [] (by kernel_rfl) (by kernel_rfl) (by kernel_rfl) ?_
            repeat (first | ((with_reducible refine Flow.pure hS StayG.nil (v := ?_) ?_ ?_ ?_ ?_); rotate_left 1; (focus kernel_rfl); (focus (intro _; rfl)); (focus (intro β wx hSw; (try dsimp only at hSw); go_simp; (try with_reducible rfl); done)); (try simp only [Act.put, List.setIfInBounds_toArray, List.set_cons_zero, List.set_cons_succ, Nat.reduceAdd])) | ((with_reducible refine Flow.skip StayG.nil ?_ ?_ ?_); (focus kernel_rfl); (focus (intro _; rfl)); (try simp only [Act.put, List.setIfInBounds_toArray, List.set_cons_zero, List.set_cons_succ, Nat.reduceAdd])) | ((with_reducible refine Flow.call hS StayG.nil (v := ?_) ?_ ?_ ?_ ?_); rotate_left 1; (focus kernel_rfl); (focus (intro _; rfl)); (focus (intro β L wx hI hat hSw K' hK; (try dsimp only at hSw); go_simp; go_at_call 35; refine Calls.mono (HCAN.out wx (HB11W.out.trans (hI.below.mono HB11W.out.size))) ?_; rintro e w' ⟨rfl, hb'⟩; exact hK.out _ hb')); (try simp only [Act.put, List.setIfInBounds_toArray, List.set_cons_zero, List.set_cons_succ, Nat.reduceAdd])) | ((with_reducible refine Flow.call hS StayG.nil (v := ?_) ?_ ?_ ?_ ?_); rotate_left 1; (focus kernel_rfl); (focus (intro _; rfl)); (focus (intro β L wx hI hat hSw K' hK; (try dsimp only at hSw); go_simp; go_at_call 36; refine Calls.mono (HEND.out wx (HB11W.out.trans (hI.below.mono HB11W.out.size))) ?_; rintro e w' ⟨rfl, hb'⟩; exact hK.out _ hb')); (try simp only [Act.put, List.setIfInBounds_toArray, List.set_cons_zero, List.set_cons_succ, Nat.reduceAdd])))
            ((with_reducible refine Flow.stop ?_); dsimp only; intro β w12 hI12)
            have HB12 := Lib.hid (HB11.out.trans (hI12.below.mono HB11.out.size))
            clear hS hI12
            go_wp2_with fail
            go_roundg (gk - 1)
            case measure => omega
            case rel => exact ⟨k + 1, by omega, by omega, by go_num, HB12.out, fun j hj => by
              rcases Nat.lt_succ_iff_lt_or_eq.1 hj with h | h
              · exact HALL2.out j h
              · subst h; exact HR1.out⟩
          by_cases hbp : bs < (pb : Int)
          · have HE := Lib.hid (HNOK.out fun h => by have := (HOKI.out.1 h).2.2.2 rfl; omega)
            have hS := HSA.out
            refine wp_flow_s [] [] (by kernel_rfl) (by kernel_rfl) (by kernel_rfl) ?_
            repeat (first | ((with_reducible refine Flow.pure hS StayG.nil (v := ?_) ?_ ?_ ?_ ?_); rotate_left 1; (focus kernel_rfl); (focus (intro _; rfl)); (focus (intro β wx hSw; (try dsimp only at hSw); go_simp; (try with_reducible rfl); done)); (try simp only [Act.put, List.setIfInBounds_toArray, List.set_cons_zero, List.set_cons_succ, Nat.reduceAdd])) | ((with_reducible refine Flow.skip StayG.nil ?_ ?_ ?_); (focus kernel_rfl); (focus (intro _; rfl)); (try simp only [Act.put, List.setIfInBounds_toArray, List.set_cons_zero, List.set_cons_succ, Nat.reduceAdd])) | ((with_reducible refine Flow.call hS StayG.nil (v := ?_) ?_ ?_ ?_ ?_); rotate_left 1; (focus kernel_rfl); (focus (intro _; rfl)); (focus (intro β L wx hI hat hSw K' hK; (try dsimp only at hSw); go_simp; go_at_call 35; refine Calls.mono (HCAN.out wx (HB11W.out.trans (hI.below.mono HB11W.out.size))) ?_; rintro e w' ⟨rfl, hb'⟩; exact hK.out _ hb')); (try simp only [Act.put, List.setIfInBounds_toArray, List.set_cons_zero, List.set_cons_succ, Nat.reduceAdd])) | ((with_reducible refine Flow.call hS StayG.nil (v := ?_) ?_ ?_ ?_ ?_); rotate_left 1; (focus kernel_rfl); (focus (intro _; rfl)); (focus (intro β L wx hI hat hSw K' hK; (try dsimp only at hSw); go_simp; go_at_call 36; refine Calls.mono (HEND.out wx (HB11W.out.trans (hI.below.mono HB11W.out.size))) ?_; rintro e w' ⟨rfl, hb'⟩; exact hK.out _ hb')); (try simp only [Act.put, List.setIfInBounds_toArray, List.set_cons_zero, List.set_cons_succ, Nat.reduceAdd])))
            ((with_reducible refine Flow.stop ?_); dsimp only; intro β w12 hI12)
            have HB12 := Lib.hid (HB11.out.trans (hI12.below.mono HB11.out.size))
            clear hS hI12
            go_wp2_with fail
            go_ret
            exact retB (vbool HE.out.symm) (HB2.out.trans (HB12.out.mono HB2.out.size))
          · have HR1 := Lib.hid (HOKI.out.2 ⟨rfl, rfl, by omega, fun _ => by omega⟩)
            have hS := HSA.out
            refine wp_flow_s [] [] (by kernel_rfl) (by kernel_rfl) (by kernel_rfl) ?_
            repeat (first | ((with_reducible refine Flow.pure hS StayG.nil (v := ?_) ?_ ?_ ?_ ?_); rotate_left 1; (focus kernel_rfl); (focus (intro _; rfl)); (focus (intro β wx hSw; (try dsimp only at hSw); go_simp; (try with_reducible rfl); done)); (try simp only [Act.put, List.setIfInBounds_toArray, List.set_cons_zero, List.set_cons_succ, Nat.reduceAdd])) | ((with_reducible refine Flow.skip StayG.nil ?_ ?_ ?_); (focus kernel_rfl); (focus (intro _; rfl)); (try simp only [Act.put, List.setIfInBounds_toArray, List.set_cons_zero, List.set_cons_succ, Nat.reduceAdd])) | ((with_reducible refine Flow.call hS StayG.nil (v := ?_) ?_ ?_ ?_ ?_); rotate_left 1; (focus kernel_rfl); (focus (intro _; rfl)); (focus (intro β L wx hI hat hSw K' hK; (try dsimp only at hSw); go_simp; go_at_call 35; refine Calls.mono (HCAN.out wx (HB11W.out.trans (hI.below.mono HB11W.out.size))) ?_; rintro e w' ⟨rfl, hb'⟩; exact hK.out _ hb')); (try simp only [Act.put, List.setIfInBounds_toArray, List.set_cons_zero, List.set_cons_succ, Nat.reduceAdd])) | ((with_reducible refine Flow.call hS StayG.nil (v := ?_) ?_ ?_ ?_ ?_); rotate_left 1; (focus kernel_rfl); (focus (intro _; rfl)); (focus (intro β L wx hI hat hSw K' hK; (try dsimp only at hSw); go_simp; go_at_call 36; refine Calls.mono (HEND.out wx (HB11W.out.trans (hI.below.mono HB11W.out.size))) ?_; rintro e w' ⟨rfl, hb'⟩; exact hK.out _ hb')); (try simp only [Act.put, List.setIfInBounds_toArray, List.set_cons_zero, List.set_cons_succ, Nat.reduceAdd])))
            ((with_reducible refine Flow.stop ?_); dsimp only; intro β w12 hI12)
            have HB12 := Lib.hid (HB11.out.trans (hI12.below.mono HB11.out.size))
            clear hS hI12
            go_wp2_with fail
            go_roundg (gk - 1)
            case measure => omega
            case rel => exact ⟨k + 1, by omega, by omega, by go_num, HB12.out, fun j hj => by
              rcases Nat.lt_succ_iff_lt_or_eq.1 hj with h | h
              · exact HALL2.out j h
              · subst h; exact HR1.out⟩
        · obtain rfl : k = i := by omega
          have HE := Lib.hid (HYES.out ⟨HVT.out, HVS.out, HHO.out, HREF.out.2 fun j hj => HALL2.out j (by rw [HN.out]; exact hj)⟩)
          go_wp2_with fail
          go_ret
          exact retB (vbool HE.out.symm) (HB2.out.trans (hbr.mono HB2.out.size))
/-! ### ShpRe -/
/-- begun ahead of (hour, i) -/
def bgn (st : List Int) (h : Int) (i k : Nat) : Bool := decide (ig st k < h) || decide (ig st k = h) && decide (k < i)
def begL (n : Nat) (st : List Int) (h : Int) (i : Nat) : List Int := (List.range n).map fun k => if bgn st h i k then ig st k else -1
theorem begL_len (n : Nat) (st : List Int) (h : Int) (i : Nat) : (begL n st h i).length = n := by simp [begL]
theorem begL_ig {n k : Nat} (st : List Int) (h : Int) (i : Nat) (hk : k < n) : ig (begL n st h i) k = if bgn st h i k then ig st k else -1 := by
  rw [ig_lt (by rw [begL_len]; exact hk)]
  simp [begL]
theorem bgn_iff {st : List Int} {h : Int} {i k : Nat} : bgn st h i k = true ↔ ig st k < h ∨ ig st k = h ∧ k < i := by
  unfold bgn
  simp [Bool.or_eq_true, Bool.and_eq_true, decide_eq_true_eq]
theorem begL_congr {n : Nat} {st : List Int} {h h' : Int} {i i' : Nat} (hb : ∀ k, k < n → bgn st h i k = bgn st h' i' k) : begL n st h i = begL n st h' i' := by
  refine List.ext_getElem (by rw [begL_len, begL_len]) fun k h1 h2 => ?_
  rw [begL_len] at h1
  rw [← ig_lt, ← ig_lt, begL_ig _ _ _ h1, begL_ig _ _ _ h1, hb k h1]
theorem bgn_skip {st : List Int} {h : Int} {i : Nat} (hne : ig st i ≠ h) (k : Nat) : bgn st h (i + 1) k = bgn st h i k := by
  rw [Bool.eq_iff_iff, bgn_iff, bgn_iff]
  by_cases e : k = i
  · subst e; omega
  · omega
theorem bgn_next {st : List Int} {h : Int} {n k : Nat} (hk : k < n) : bgn st h n k = bgn st (h + 1) 0 k := by
  rw [Bool.eq_iff_iff, bgn_iff, bgn_iff]
  omega
theorem begL_begin {n i : Nat} {st : List Int} {h : Int} (hi : i < n) (he : ig st i = h) : begL n st h (i + 1) = (begL n st h i).set i h := by
  refine List.ext_getElem (by rw [List.length_set, begL_len, begL_len]) fun k h1 h2 => ?_
  rw [begL_len] at h1
  rw [← ig_lt, ← ig_lt, begL_ig _ _ _ h1, ig_setN _ _ _ _ (by rw [begL_len]; exact hi), begL_ig _ _ _ h1]
  by_cases e : i = k
  · subst e
    rw [if_pos rfl, (bgn_iff).2 (by omega), if_pos rfl, he]
  · rw [if_neg e]
    have : bgn st h (i + 1) k = bgn st h i k := by
      rw [Bool.eq_iff_iff, bgn_iff, bgn_iff]
      omega
    rw [this]
theorem cnt_begin {n i : Nat} {st : List Int} {h : Int} (hi : i < n) (he : ig st i = h) : cntP (bgn st h (i + 1)) n = cntP (bgn st h i) n + 1 := by
  refine cntP_set (i := i) ?_ (bgn_iff.2 (by omega)) hi fun k _ hk => ?_
  · cases e : bgn st h i i
    · rfl
    · rw [bgn_iff] at e; omega
  · rw [Bool.eq_iff_iff, bgn_iff, bgn_iff]
    omega
section
variable {l : List Tk} {s : Sh} {st : List Int}
theorem begL_all (g : Greedy l s st) {h : Int} {i : Nat} (hc : cntP (bgn st h i) l.length = l.length) : begL l.length st h i = st := by
  have hall : ∀ n, cntP (bgn st h i) n = n → ∀ k, k < n → bgn st h i k = true := fun n => by
    induction n with
    | zero => intro _ k hk; omega
    | succ n ih =>
      intro hc k hk
      have hle := cntP_le (bgn st h i) n
      unfold cntP at hc
      cases e : bgn st h i n
      · rw [e] at hc; simp at hc; omega
      · rw [e] at hc
        simp at hc
        by_cases ek : k = n
        · rw [ek]; exact e
        · exact ih (by omega) k (by omega)
  refine List.ext_getElem (by rw [begL_len, g.len]) fun k h1 h2 => ?_
  rw [begL_len] at h1
  rw [← ig_lt, ← ig_lt, begL_ig _ _ _ h1, hall _ hc k h1, if_pos rfl]
theorem left_hour (g : Greedy l s st) {h : Int} {i : Nat} (hc : cntP (bgn st h i) l.length ≠ l.length) : h ≤ 40000 := by
  refine Classical.byContradiction fun hn => hc ?_
  have : ∀ n, n ≤ l.length → cntP (bgn st h i) n = n := fun n => by
    induction n with
    | zero => intro _; rfl
    | succ n ih =>
      intro hle
      have hp := g.pos n (by omega)
      unfold cntP
      rw [ih (by omega), bgn_iff.2 (by omega)]
      rfl
  exact this _ (Nat.le_refl _)
theorem begL_st (g : Greedy l s st) (h : Int) (i : Nat) : St l (begL l.length st h i) := ⟨begL_len _ _ _ _, fun k hk => by
  rw [begL_ig _ _ _ hk]
  have := g.pos k hk
  split <;> omega⟩
theorem begL_end (hv : VT l) (g : Greedy l s st) {h : Int} {i : Nat} (hi : i < l.length) : endB l (begL l.length st h i) (tg l i).after h = true ↔ EndedAt l st (T1 l) h i := by
  rw [endB_iff, ended_T1 hv hi]
  constructor
  · intro hh a ha
    have hal := after_ok hv hi ha
    obtain ⟨h1, h2⟩ := hh a ha
    rw [begL_ig _ _ _ hal] at h1
    unfold endAt at h2 ⊢
    rw [begL_ig _ _ _ hal] at h2
    by_cases e : bgn st h i a.toNat = true
    · rw [if_pos e] at h2; exact h2
    · rw [if_neg e] at h1; omega
  · intro hh a ha
    have hal := after_ok hv hi ha
    have h1 := hh a ha
    have h2 := end_gt (st := st) hv hal
    have h3 := g.pos _ hal
    unfold endAt
    rw [begL_ig _ _ _ hal, bgn_iff.2 (.inl (by omega)), if_pos rfl]
    unfold endAt at h1
    exact ⟨h3.1, h1⟩
theorem begL_rr (g : Greedy l s st) {h : Int} {i k : Nat} (hk : k < l.length) : rr l (begL l.length st h i) h k = rn l st h i k := by
  have hp := g.pos k hk
  rw [Bool.eq_iff_iff, rn_iff]
  unfold rr
  rw [Bool.and_eq_true, decide_eq_true_eq, runs_iff]
  unfold endAt
  rw [begL_ig _ _ _ hk]
  by_cases e : bgn st h i k = true
  · rw [if_pos e]
    rw [bgn_iff] at e
    omega
  · rw [if_neg e]
    rw [bgn_iff] at e
    omega
theorem begL_S (hv : VT l) (g : Greedy l s st) {h : Int} {i : Nat} (hi : i < l.length) : cntP (rS l (begL l.length st h i) h (tg l i).skill) l.length = cB l st h i (isS l (tg l i).skill.toNat) := cntP_congr fun k hk => by
  unfold rS isS
  rw [begL_rr g hk]
  congr 1
  have := (hv.2 k hk).2.2.1
  have := (hv.2 i hi).2.2.1
  rw [Bool.eq_iff_iff, decide_eq_true_eq, decide_eq_true_eq]
  omega
theorem begL_B (g : Greedy l s st) {h : Int} {i : Nat} : cntP (rB l (begL l.length st h i) h) l.length = cB l st h i (isB l) := cntP_congr fun k hk => by
  unfold rB isB
  rw [begL_rr g hk]
/-- what the reference decides -/
theorem begL_dec (hv : VT l) (hs : VS s) (g : Greedy l s st) {h : Int} {k : Nat} (h0 : 0 ≤ h) (hk : k < l.length) (hnb : ¬ ig st k < h) : ig st k = h ↔
    (endB l (begL l.length st h k) (tg l k).after h = true ∧ (cntP (rS l (begL l.length st h k) h (tg l k).skill) l.length : Int) < ig s.staff (tg l k).skill.toNat ∧ ((tg l k).bay = true → (cntP (rB l (begL l.length st h k) h) l.length : Int) < s.bays)) := by
  rw [begL_end hv g hk, begL_S hv g hk, begL_B g, ← g.fits hv hs hk]
  have hd := g.dec h k h0 hk
  unfold Right at hd
  constructor
  · intro e
    exact (hd.1 ⟨T1_bg hk, e⟩).2
  · intro e
    exact (hd.2 ⟨fun hh => hnb hh.2, e.1, e.2⟩).2
theorem planR_arg {n : Int} (h : PlanR l s st n) (hno : ¬ (VT l ∧ VS s)) : st = [] ∧ n = 1 := by
  rcases h with ⟨a, b, _⟩ | ⟨_, _, c, d, _⟩ | ⟨_, _, c, d, _⟩ | ⟨_, c, d, _⟩
  · exact ⟨b, a⟩
  · exact absurd ⟨c, d⟩ hno
  · exact absurd ⟨c, d⟩ hno
  · exact absurd ⟨c, d⟩ hno
theorem planR_cyc {n : Int} (h : PlanR l s st n) (hv : VT l) (hs : VS s) (ho : (orderOf l).length < l.length) : st = [] ∧ n = 24 := by
  rcases h with ⟨_, _, c⟩ | ⟨a, b, _⟩ | ⟨_, _, _, _, c, _⟩ | ⟨_, _, _, c, _⟩
  · exact absurd ⟨hv, hs⟩ c
  · exact ⟨b, a⟩
  · exact absurd ho c
  · exact absurd ho c
theorem planR_can {n : Int} (h : PlanR l s st n) (hv : VT l) (hs : VS s) (ho : ¬ (orderOf l).length < l.length) {i : Nat} (hi : i < l.length) (hc : canQ (tg l i) s = false) : st = [] ∧ n = 2 := by
  have ht := hv.2 i hi
  have hb : canB s (tg l i) = false := by
    cases e : canB s (tg l i)
    · rfl
    · rw [canB_P ht.2.2.1 ht.2.2.2.1 hs, ← canQ_iff, hc] at e
      cases e
  rcases h with ⟨_, _, c⟩ | ⟨_, _, _, _, c⟩ | ⟨a, b, _⟩ | ⟨_, _, _, _, c, _⟩
  · exact absurd ⟨hv, hs⟩ c
  · exact absurd c ho
  · exact ⟨b, a⟩
  · rw [List.any_eq_false] at c
    have := c _ (tg_mem hi)
    rw [hb] at this
    simp at this
theorem planR_gr {n : Int} (h : PlanR l s st n) (hv : VT l) (hs : VS s) (ho : ¬ (orderOf l).length < l.length) (hc : ∀ i, i < l.length → canQ (tg l i) s = true) : n = 0 ∧ Greedy l s st := by
  rcases h with ⟨_, _, c⟩ | ⟨_, _, _, _, c⟩ | ⟨_, _, _, _, _, c⟩ | ⟨a, _, _, _, _, c⟩
  · exact absurd ⟨hv, hs⟩ c
  · exact absurd c ho
  · rw [List.any_eq_true] at c
    obtain ⟨t, ht, h2⟩ := c
    obtain ⟨i, hi, rfl⟩ := List.getElem_of_mem ht
    rw [← tg_lt hi] at h2
    have hti := hv.2 i hi
    rw [(canB_P hti.2.2.1 hti.2.2.2.1 hs).2 ((canQ_iff _ _).1 (hc i hi))] at h2
    cases h2
  · exact ⟨a, c⟩
end
theorem OwnI.setC {w : World} {B g cap : Nat} {l : List Int} (h : OwnI w B (.slice (some ⟨g, 0, none⟩) l.length cap) l) (j : Nat) (x : Int) : OwnI (w.setCell ⟨g, j, none⟩ (.int .i64 x)) B (.slice (some ⟨g, 0, none⟩) l.length cap) (l.set j x) := by
  have k := (World.ownsRow.stored h j (.int .i64 x)).1
  unfold OwnI
  rw [List.map_set, List.length_set]
  exact k
theorem OwnI.form {w : World} {B : Nat} {v : Value} {l : List Int} (h : OwnI w B v l) (hp : 0 < l.length) : ∃ g c, v = .slice (some ⟨g, 0, none⟩) l.length c ∧ B ≤ g ∧ g < w.heap.size := by
  have hlt := World.ownsRow.lt h
  rcases h.2 with ⟨_, hn⟩ | ⟨g, cap, cur, rfl, _⟩
  · omega
  · exact ⟨g, cap, rfl, hlt g rfl⟩
theorem own_belowR {w w' : World} {B : Nat} {v : Value} {l : List Int} (h : OwnI w B v l) (hg : w.grownBy w' v.ownBlock) (hB : B ≤ w.heap.size) : Below B w w' :=
  ((Chg.refl (fun j => v.ownBlock = some j) w).grown hg (fun _ hj _ => hj)).below hB fun _ hj => (World.ownsRow.lt h _ hj).1
/-! ### ShpRf -/
set_option maxRecDepth 100000 in
set_option maxHeartbeats 8000000 in
theorem rplan_any (l : List Tk) (a : Option Addr) (cap : Nat) (s : Sh) (sa : Option Addr) (sc : Nat) (st : List Int) (rn' : Int) (w : World) (hT : Tasks w a l) (hl : l.length < 9223372036854775808) (hS : l.length ≤ 40 → ∀ i, i < l.length → (tg l i).after.length < 9223372036854775808) (hI : Ints w sa s.staff) (hq20 : s.staff.length ≤ 20) (hP : PlanR l s st rn') :
    Calls Try.prog 13 #[.slice a l.length cap, shV s sa sc] w (RetIE st rn' w) := by
  obtain ⟨v, hv⟩ : ∃ v, v = vB l := ⟨_, rfl⟩
  obtain ⟨vs, hvs⟩ : ∃ v, v = vsV s := ⟨_, rfl⟩
  obtain ⟨n, hn⟩ : ∃ n, n = l.length := ⟨_, rfl⟩
  obtain ⟨q, hq⟩ : ∃ n, n = s.staff.length := ⟨_, rfl⟩
  obtain ⟨bs, hbs⟩ : ∃ n, n = s.bays := ⟨_, rfl⟩
  obtain ⟨oe, hoe⟩ : ∃ n, n = oE l := ⟨_, rfl⟩
  obtain ⟨ol, hol⟩ : ∃ n, n = oL l := ⟨_, rfl⟩
  have HV := Lib.hid (show ∀ wy, Below w.heap.size w wy → Calls Try.prog 33 #[.slice a n cap] wy (RetB (.bool v) wy) from fun wy hy => by
    rw [hn]
    exact rvalid_any l a cap v wy (hT.later hy) hl hS (by rw [hv]; exact vB_iff l))
  have HW := Lib.hid (show ∀ wy, Below w.heap.size w wy → Calls Try.prog 20 #[.agg #[.slice sa q sc, .int .i64 bs]] wy (RetB (.bool vs) wy) from fun wy hy => by
    rw [hvs, hq, hbs]
    exact rshop_any s sa sc wy (hI.later hy) hq20)
  have HOR := Lib.hid (show ∀ wy, Below w.heap.size w wy → Calls Try.prog 34 #[.slice a n cap] wy (RetIE ol oe wy) from fun wy hy => by
    rw [hn, hol, hoe]
    exact (order_any l a cap wy (hT.later hy) hl hS).2)
  have HT := Lib.hid hT
  have HI := Lib.hid hI
  have HN := Lib.hid hn
  have HQ := Lib.hid hq
  have HBS := Lib.hid hbs
  have HVE := Lib.hid hv
  have HVSE := Lib.hid hvs
  have HOE := Lib.hid hoe
  have HP := Lib.hid hP
  unfold shV
  rw [← hn, ← hq, ← hbs]
  clear hv hvs hT hl hS hI hn hq hbs hq20 hP hoe hol
  go_enter Try.func13, Try.ntmps13
  go_upto_region 1 with fail
  obtain ⟨wX, P, hPe, hbX, hBX, hwX⟩ : ∃ wX P, P = w.heap.size ∧ Below w.heap.size w wX ∧ BoxAt wX P [.slice sa q sc, .int .i64 bs] ∧ wX = w.alloc (.cells #[.slice sa q sc, .int .i64 bs] 25) := ⟨_, _, rfl, (Below.refl _ _).alloc (Nat.le_refl _) _, BoxAt.new w _ _, rfl⟩
  rw [← hwX, ← hPe]
  have HBX := Lib.hid hbX
  have HX := Lib.hid hBX
  clear hPe hbX hBX hwX
  go_wp2_with fail
  refine Calls.mono (HV.out wX HBX.out) ?_
  rintro e w1 ⟨rfl, hb1⟩
  have HB1 := Lib.hid (HBX.out.trans (hb1.mono HBX.out.size))
  have HX1 := Lib.hid (HX.out.later hb1)
  have c0 := (HX1.out 0 _ rfl).1
  have c1 := (HX1.out 1 _ rfl).1
  clear hb1 HX HBX
  cases v
  · obtain ⟨rfl, rfl⟩ := planR_arg HP.out fun h => by
      have := (vB_iff l).2 h.1
      rw [← HVE.out] at this
      cases this
    go_wp2_with fail
    go_ret2
    exact ⟨none, 0, rfl, Ints.nil _ _, HB1.out⟩
  go_wp2_with fail
  refine Calls.mono (HW.out w1 HB1.out) ?_
  rintro e w2 ⟨rfl, hb2⟩
  have HB2 := Lib.hid (HB1.out.trans (hb2.mono HB1.out.size))
  have HX2 := Lib.hid (HX1.out.later hb2)
  clear hb2 c0 c1 HX1
  cases vs
  · obtain ⟨rfl, rfl⟩ := planR_arg HP.out fun h => by
      have := (vsV_iff s).2 h.2
      rw [← HVSE.out] at this
      cases this
    go_wp2_with fail
    go_ret2
    exact ⟨none, 0, rfl, Ints.nil _ _, HB2.out⟩
  have HVT := Lib.hid ((vB_iff l).1 HVE.out.symm)
  have HVS := Lib.hid ((vsV_iff s).1 HVSE.out.symm)
  have h40 : n ≤ 40 := by rw [HN.out]; exact HVT.out.1
  have hoe2 : oe = ordE l := by rw [HOE.out]; unfold oE; exact if_pos HVT.out
  go_wp2_with fail
  refine Calls.mono (HOR.out w2 HB2.out) ?_
  rintro e w3 ⟨oa, oc, rfl, _, hb3⟩
  have HB3 := Lib.hid (HB2.out.trans (hb3.mono HB2.out.size))
  have HX3 := Lib.hid (HX2.out.later hb3)
  clear hb3 HX2
  by_cases hord : (orderOf l).length < l.length
  · obtain rfl : oe = 24 := by rw [hoe2]; unfold ordE; exact if_pos hord
    obtain ⟨rfl, rfl⟩ := planR_cyc HP.out HVT.out HVS.out hord
    clear hoe2 hord
    go_wp2_with fail
    go_ret2
    exact ⟨none, 0, rfl, Ints.nil _ _, HB3.out⟩
  obtain rfl : oe = 0 := by rw [hoe2]; unfold ordE; exact if_neg hord
  have HORD := Lib.hid hord
  clear hoe2 hord HV HW HOR
  go_upto_region 8 with fail
  go_loopg [8, 9] (n + 1) (fun gk v8 v9 wr => ∃ (i : Nat) (v : Value), i ≤ n ∧ gk + i = n + 1 ∧ v9 = .int .i64 i ∧ v8 = v ∧ Below w3.heap.size w3 wr ∧ OwnI wr w3.heap.size v (List.replicate i (-1)) ∧ ∀ j, j < i → canQ (tg l j) s = true)
  case atStart => exact ⟨0, _, by omega, by omega, rfl, rfl, Below.refl _ _, OwnI.nil _ _, fun j hj => absurd hj (by omega)⟩
  case round =>
    obtain ⟨i, v, hi, hgi, rfl, rfl, hbr, how, hall⟩ := hrel
    have HBR := Lib.hid hbr
    have HOW := Lib.hid how
    have HALL := Lib.hid hall
    clear how hall
    by_cases hlt : i < n
    · have hiL : i < l.length := by rw [← HN.out]; exact hlt
      have hbw := HB3.out.trans (hbr.mono HB3.out.size)
      obtain ⟨tb, tf, aa, ac, rfl, b0, b1, b2, b3, _⟩ := (HT.out.later hbw) i hiL
      have htk := HVT.out.2 i hiL
      obtain ⟨usk, husk⟩ : ∃ u : Nat, (tg l i).skill = u := ⟨(tg l i).skill.toNat, by have := htk.2.2.1; omega⟩
      have hcan := fun wy hy => rcan_any (tg l i) aa ac usk s sa sc wy (HI.out.later hy) husk
      obtain ⟨cq, hcq⟩ : ∃ c, c = canQ (tg l i) s := ⟨_, rfl⟩
      obtain ⟨ta, hta⟩ : ∃ x, x = (tg l i).after.length := ⟨_, rfl⟩
      obtain ⟨th, hth⟩ : ∃ x, x = (tg l i).hours := ⟨_, rfl⟩
      obtain ⟨bay, hbay⟩ : ∃ x, x = (tg l i).bay := ⟨_, rfl⟩
      have HCAN := Lib.hid (show ∀ wy, Below w.heap.size w wy → Calls Try.prog 35 #[.agg #[.int .i64 th, .int .i64 usk, .bool bay, .slice aa ta ac], .agg #[.slice sa q sc, .int .i64 bs]] wy (RetB (.bool cq) wy) from fun wy hy => by
        have h := hcan wy hy
        unfold tkV shV at h
        rw [← hcq, husk, ← hta, ← hth, ← hbay, ← HQ.out, ← HBS.out] at h
        exact h)
      have HCQ := Lib.hid hcq
      have HIL := Lib.hid hiL
      rw [husk] at b1
      rw [← hta] at b3
      rw [← hth] at b0
      rw [← hbay] at b2
      have p0 := ((HX3.out.later hbr) 0 _ rfl).1
      have p1 := ((HX3.out.later hbr) 1 _ rfl).1
      have n1 : (i : Int) < (n : Int) := by omega
      have n0 : (0 : Int) ≤ (i : Int) := by omega
      have HSO := Lib.hid (show ∀ wy : World, Below wr.heap.size wr wy → wy.cell? ⟨tb, tf + i * 4, none⟩ = some (.int .i64 th) ∧ wy.cell? ⟨tb, tf + i * 4 + 1, none⟩ = some (.int .i64 usk) ∧ wy.cell? ⟨tb, tf + i * 4 + 2, none⟩ = some (.bool bay) ∧ wy.cell? ⟨tb, tf + i * 4 + 3, none⟩ = some (.slice aa ta ac) ∧ wy.cell? ⟨P, 0, none⟩ = some (.slice sa q sc) ∧ wy.cell? ⟨P, 1, none⟩ = some (.int .i64 bs) from fun wy hy => ⟨cell_later hy b0, cell_later hy b1, cell_later hy b2, cell_later hy b3, cell_later hy p0, cell_later hy p1⟩)
      have HBW := Lib.hid hbw
      clear hcan hcq hta hth hbay htk husk b0 b1 b2 b3 p0 p1 hbr hbw hiL
      go_upto_region 10 with fail
      have hS := HSO.out
      refine wp_flow_s [] [] (by kernel_rfl) (by kernel_rfl) (by kernel_rfl) ?_
      repeat (first | ((with_reducible refine Flow.pure hS StayG.nil (v := ?_) ?_ ?_ ?_ ?_); rotate_left 1; (focus kernel_rfl); (focus (intro _; rfl)); (focus (intro β wx hSw; (try dsimp only at hSw); go_simp; (try with_reducible rfl); done)); (try simp only [Act.put, List.setIfInBounds_toArray, List.set_cons_zero, List.set_cons_succ, Nat.reduceAdd])) | ((with_reducible refine Flow.skip StayG.nil ?_ ?_ ?_); (focus kernel_rfl); (focus (intro _; rfl)); (try simp only [Act.put, List.setIfInBounds_toArray, List.set_cons_zero, List.set_cons_succ, Nat.reduceAdd])) | ((with_reducible refine Flow.call hS StayG.nil (v := ?_) ?_ ?_ ?_ ?_); rotate_left 1; (focus kernel_rfl); (focus (intro _; rfl)); (focus (intro β L wx hI hat hSw K' hK; (try dsimp only at hSw); go_simp; go_at_call 35; refine Calls.mono (HCAN.out wx (HBW.out.trans (hI.below.mono HBW.out.size))) ?_; rintro e w' ⟨rfl, hb'⟩; exact hK.out _ hb')); (try simp only [Act.put, List.setIfInBounds_toArray, List.set_cons_zero, List.set_cons_succ, Nat.reduceAdd])))
      ((with_reducible refine Flow.stop ?_); dsimp only; intro β w10 hI10)
      have HB10 := Lib.hid (HBR.out.trans (hI10.below.mono HBR.out.size))
      have HB10W := Lib.hid (HBW.out.trans (hI10.below.mono HBW.out.size))
      have HOW10 := Lib.hid (HOW.out.later hI10.below)
      clear hS hI10 HSO HOW
      cases cq
      · obtain ⟨rfl, rfl⟩ := planR_can HP.out HVT.out HVS.out HORD.out HIL.out HCQ.out.symm
        go_wp2_with fail
        go_ret2
        exact ⟨none, 0, rfl, Ints.nil _ _, HB10W.out⟩
      · have hbA : Below w10.heap.size w10 (w10.alloc (.cells #[.int .i64 (-1)] 3)) := (Below.refl _ _).alloc (Nat.le_refl _) _
        have HBA := Lib.hid hbA
        have HLN := Lib.hid (show n ≤ 40 from h40)
        have HLT := Lib.hid hlt
        clear hbA
        go_upto_region 9 with (at_builtin; go_loud (refine append_int _ rfl _ _ rfl w3.heap.size _ (List.replicate i (-1)) (-1) rfl (HOW10.out.later HBA.out) w10.heap.size 1 rfl (BoxAt.new w10 [.int .i64 (-1)] 3 0 _ rfl).1 (by rw [List.length_replicate]; have := HLN.out; have := HLT.out; omega) (Nat.le_trans HB10.out.size HBA.out.size) ?_; intro v5 w5 ho5 hg5; have HO5 := Lib.hid ho5; have HB5 := Lib.hid ((HB10.out.trans (HBA.out.mono HB10.out.size)).trans (own_belowR (HOW10.out.later HBA.out) hg5 (Nat.le_trans HB10.out.size HBA.out.size))); clear ho5 hg5))
        go_wp2_with fail
        go_roundg (gk - 1)
        case measure => omega
        case rel => exact ⟨i + 1, _, by omega, by omega, by go_num, rfl, HB5.out, by have h := HO5.out; rw [List.replicate_succ']; exact h, fun j hj => by
          rcases Nat.lt_succ_iff_lt_or_eq.1 hj with h | h
          · exact HALL.out j h
          · subst h; exact HCQ.out.symm⟩
    · obtain rfl : i = n := by omega
      obtain ⟨hr0, g⟩ := planR_gr HP.out HVT.out HVS.out HORD.out fun j hj => HALL.out j (by rw [HN.out]; exact hj)
      subst hr0
      have HG := Lib.hid g
      have h00 : begL i st 0 0 = List.replicate i (-1) := by
        refine List.ext_getElem (by rw [begL_len, List.length_replicate]) fun k h1 h2 => ?_
        rw [begL_len] at h1
        have hp := g.pos k (by rw [← HN.out]; exact h1)
        have hb : bgn st 0 0 k = false := by
          cases e : bgn st 0 0 k
          · rfl
          · rw [bgn_iff] at e; omega
        rw [← ig_lt, begL_ig _ _ _ h1, hb]
        simp
      have h01 : cntP (bgn st 0 0) i = 0 := by
        have : ∀ m, m ≤ i → cntP (bgn st 0 0) m = 0 := fun m => by
          induction m with
          | zero => intro _; rfl
          | succ m ih =>
            intro hm
            have hp := g.pos m (by rw [← HN.out]; omega)
            have hb : bgn st 0 0 m = false := by
              cases e : bgn st 0 0 m
              · rfl
              · rw [bgn_iff] at e; omega
            unfold cntP
            rw [ih (by omega), hb]
            rfl
        exact this _ (Nat.le_refl _)
      have how := HOW.out
      rw [← h00] at how
      have HOW0 := Lib.hid how
      have HC0 := Lib.hid h01
      clear how h00 h01 g hlt HOW hgi
      go_upto_region 15 with fail
      go_loopg [10, 11] 40003 (fun gk v10 v11 wr => ∃ (hour lf : Nat), gk + hour = 40003 ∧ lf + cntP (bgn st hour 0) i = i ∧ v11 = .int .i64 hour ∧ v10 = .int .i64 lf ∧ Below w3.heap.size w3 wr ∧ OwnI wr w3.heap.size u8 (begL i st hour 0))
      case atStart => exact ⟨0, i, by omega, by have := HC0.out; exact (show i + cntP (bgn st 0 0) i = i by omega), rfl, rfl, HBR.out, HOW0.out⟩
      case round =>
        obtain ⟨hour, lf, hgk, hlf, rfl, rfl, hbr2, how2⟩ := hrel
        have HBR2 := Lib.hid hbr2
        have HOW2 := Lib.hid how2
        have HGK := Lib.hid hgk
        have HLF := Lib.hid hlf
        clear how2 hgk hbr2
        by_cases hl0 : lf = 0
        · subst hl0
          have hst : begL i st hour 0 = st := by
            have h := begL_all HG.out (h := (hour : Int)) (i := 0) (by rw [← HN.out]; omega)
            rw [← HN.out] at h
            exact h
          have how3 := HOW2.out
          rw [hst] at how3
          obtain ⟨ra, rc, rfl, hri, _⟩ := how3.ints
          have HRI := Lib.hid hri
          clear how3 hri hst hlf HOW2 HOW0
          go_wp2_with fail
          go_ret2
          exact ⟨ra, rc, rfl, HRI.out, HB3.out.trans (HBR2.out.mono HB3.out.size)⟩
        · have hh4 : (hour : Int) ≤ 40000 := left_hour HG.out (i := 0) (by rw [← HN.out]; omega)
          have hi0 : 0 < i := by omega
          obtain ⟨A, c, hform, hA1, hA2⟩ := HOW2.out.form (by rw [begL_len]; exact hi0)
          rw [begL_len] at hform
          subst hform
          have HGO := Lib.hid (show 40002 - hour < gk from by have := HGK.out; omega)
          have HH4 := Lib.hid hh4
          have HPA := Lib.hid hA1
          have hlp : (0 : Int) < (lf : Int) := by omega
          have hlp3 : 0 < lf := by omega
          clear hh4 hi0 hA1 hA2 HOW0 HC0 HGK
          go_upto_region 18 with fail
          clear hlp hlp3 hl0
          go_loopg [10, 12] (i + 1) (fun gk v10 v12 wz => ∃ (k lf : Nat), k ≤ i ∧ gk + k = i + 1 ∧ lf + cntP (bgn st hour k) i = i ∧ v12 = .int .i64 k ∧ v10 = .int .i64 lf ∧ Below w3.heap.size w3 wz ∧ OwnI wz w3.heap.size (.slice (some ⟨A, 0, none⟩) i c) (begL i st hour k))
          case atStart => exact ⟨0, lf, by omega, by omega, HLF.out, rfl, rfl, HBR2.out, HOW2.out⟩
          case round =>
            obtain ⟨k, lf, hk, hgk, hlf, rfl, rfl, hbr3, how3⟩ := hrel
            have HBR3 := Lib.hid hbr3
            have HOW3 := Lib.hid how3
            have HLF3 := Lib.hid hlf
            clear how3 hlf
            by_cases hlt : k < i
            · have hkL : k < l.length := by rw [← HN.out]; exact hlt
              have hbw := HB3.out.trans (hbr3.mono HB3.out.size)
              obtain ⟨tb, tf, aa, ac, rfl, b0, b1, b2, b3, hAI⟩ := (HT.out.later hbw) k hkL
              have htk := HVT.out.2 k hkL
              have hpos := HG.out.pos k hkL
              have hlen : (begL i st hour k).length = i := begL_len _ _ _ _
              have how3 : OwnI wr w3.heap.size (.slice (some ⟨A, 0, none⟩) (begL i st hour k).length c) (begL i st hour k) := by
                rw [begL_len]
                exact HOW3.out
              have cA := how3.cell (j := k) (by rw [hlen]; exact hlt)
              have fA := how3.free k
              have hig := begL_ig (n := i) st hour k hlt
              rw [hig] at cA
              have n1 : (k : Int) < (i : Int) := by omega
              have n0 : (0 : Int) ≤ (k : Int) := by omega
              have SK1 := Lib.hid (show ig st k ≠ (hour : Int) → (lf + cntP (bgn st hour (k + 1)) i = i ∧ begL i st hour (k + 1) = begL i st hour k) from fun hne => ⟨by rw [cntP_congr (n := i) fun j _ => bgn_skip hne j]; exact HLF3.out, begL_congr fun j _ => bgn_skip hne j⟩)
              have hh4 := HH4.out
              by_cases hb : ig st k < (hour : Int)
              · have hbt : bgn st hour k k = true := bgn_iff.2 (.inl hb)
                rw [hbt, if_pos rfl] at cA
                obtain ⟨x, hx⟩ : ∃ x, x = ig st k := ⟨_, rfl⟩
                rw [← hx] at cA hpos hb
                have SK2 := Lib.hid (SK1.out (by rw [← hx]; omega))
                have hx0 : 0 ≤ x := hpos.1
                clear b0 b1 b2 b3 hAI hkL htk hlen how3 hig hx hbt hb hbw hpos hbr3
                go_wp2_with fail
                go_roundg (gk - 1)
                case measure => omega
                case rel => exact ⟨k + 1, lf, by omega, by omega, SK2.out.1, by go_num, rfl, HBR3.out, by rw [SK2.out.2]; exact HOW3.out⟩
              have hbf : bgn st hour k k = false := by
                cases e : bgn st hour k k
                · rfl
                · rw [bgn_iff] at e; omega
              rw [hbf] at cA
              simp only [Bool.false_eq_true, if_false] at cA
              obtain ⟨usk, husk⟩ : ∃ u : Nat, (tg l k).skill = u := ⟨(tg l k).skill.toNat, by have := htk.2.2.1; omega⟩
              have hun : (tg l k).skill.toNat = usk := by rw [husk]; rfl
              have hbl : St l (begL l.length st hour k) := begL_st HG.out _ _
              have hIb : Ints wr (some ⟨A, 0, none⟩) (begL i st hour k) := fun j hj => ⟨A, 0, rfl, by rw [Nat.zero_add]; exact how3.cell hj⟩
              have hdec := begL_dec HVT.out HVS.out HG.out (h := (hour : Int)) (by omega) hkL hb
              rw [← HN.out] at hbl hdec
              have hend := fun wy (hy : Below wr.heap.size wr wy) => ended_any l (some ⟨tb, tf, none⟩) cap (begL i st hour k) (some ⟨A, 0, none⟩) c k aa ac hour wy (HT.out.later (hbw.trans (hy.mono hbw.size))) HVT.out (hIb.later hy) hbl hkL (hAI.later hy)
              have hrun := fun wy (hy : Below wr.heap.size wr wy) => running_any l (some ⟨tb, tf, none⟩) cap (begL i st hour k) (some ⟨A, 0, none⟩) c hour (tg l k).skill wy (HT.out.later (hbw.trans (hy.mono hbw.size))) HVT.out (hIb.later hy) hbl
              obtain ⟨vb, vo, hsa, fv⟩ := HI.out.fam (by have := HG.out.skill HVT.out hkL; omega)
              subst hsa
              have cv0 := fv usk (by rw [← hun]; exact HG.out.skill HVT.out hkL)
              have cv := cell_later hbw cv0
              have hskq : usk < q := by rw [HQ.out, ← hun]; exact HG.out.skill HVT.out hkL
              obtain ⟨eb, heb⟩ : ∃ c, c = endB l (begL i st hour k) (tg l k).after hour := ⟨_, rfl⟩
              obtain ⟨p, hp⟩ : ∃ c, c = cntP (rS l (begL i st hour k) hour (tg l k).skill) i := ⟨_, rfl⟩
              obtain ⟨pb, hpb⟩ : ∃ c, c = cntP (rB l (begL i st hour k) hour) i := ⟨_, rfl⟩
              obtain ⟨v, hv⟩ : ∃ v, v = ig s.staff usk := ⟨_, rfl⟩
              obtain ⟨ta, hta⟩ : ∃ x, x = (tg l k).after.length := ⟨_, rfl⟩
              obtain ⟨th, hth⟩ : ∃ x, x = (tg l k).hours := ⟨_, rfl⟩
              obtain ⟨bay, hbay⟩ : ∃ x, x = (tg l k).bay := ⟨_, rfl⟩
              have HDEC := Lib.hid (show ig st k = (hour : Int) ↔ (eb = true ∧ (p : Int) < v ∧ (bay = true → (pb : Int) < bs)) from by
                rw [heb, hp, hpb, hv, hbay, HBS.out, ← hun]
                exact hdec)
              have HEND := Lib.hid (show ∀ wy, Below wr.heap.size wr wy → Calls Try.prog 36 #[.slice (some ⟨tb, tf, none⟩) i cap, .slice (some ⟨A, 0, none⟩) i c, .agg #[.int .i64 th, .int .i64 usk, .bool bay, .slice aa ta ac], .int .i64 hour] wy (RetB (.bool eb) wy) from fun wy hy => by
                have h := hend wy hy
                unfold tkV at h
                rw [← heb, husk, ← hta, ← hth, ← hbay, hlen, ← HN.out] at h
                exact h)
              have HRUN := Lib.hid (show ∀ wy, Below wr.heap.size wr wy → Calls Try.prog 37 #[.slice (some ⟨tb, tf, none⟩) i cap, .slice (some ⟨A, 0, none⟩) i c, .int .i64 hour, .int .i64 usk] wy (RetNN p pb wy) from fun wy hy => by
                have h := hrun wy hy
                rw [← HN.out, ← hp, ← hpb, husk, hlen] at h
                exact h)
              rw [husk] at b1
              rw [← hta] at b3
              rw [← hth] at b0
              rw [← hbay] at b2
              rw [← hv] at cv
              have p0 := ((HX3.out.later hbr3) 0 _ rfl).1
              have p1 := ((HX3.out.later hbr3) 1 _ rfl).1
              have HSO := Lib.hid (show ∀ wy : World, Below wr.heap.size wr wy → wy.cell? ⟨tb, tf + k * 4 + 1, none⟩ = some (.int .i64 usk) ∧ wy.cell? ⟨tb, tf + k * 4 + 2, none⟩ = some (.bool bay) ∧ wy.cell? ⟨P, 0, none⟩ = some (.slice (some ⟨vb, vo, none⟩) q sc) ∧ wy.cell? ⟨P, 1, none⟩ = some (.int .i64 bs) ∧ wy.cell? ⟨vb, vo + usk, none⟩ = some (.int .i64 v) from fun wy hy => ⟨cell_later hy b1, cell_later hy b2, cell_later hy p0, cell_later hy p1, cell_later hy cv⟩)
              have HSKQ := Lib.hid hskq
              have HAK := Lib.hid (show ∀ wy, Below wr.heap.size wr wy → wy.cell? ⟨A, k, none⟩ = some (.int .i64 (-1)) ∧ wy.frozen? ⟨A, k, none⟩ = false from fun wy hy => ⟨cell_later hy cA, (how3.later hy).free k⟩)
              clear hend hrun heb hp hpb hv hta hth hbay hdec hbl hIb hun husk hlen how3 hig hbf htk hpos hAI hkL fv cv0 cv hskq p0 p1 hbw hbr3 hb fA
              go_wp2_with fail
              refine Calls.mono (HEND.out wr (Below.refl _ _)) ?_
              rintro e w20 ⟨rfl, hb20⟩
              have HB20 := Lib.hid hb20
              clear b0 b1 b2 b3 cA hb20
              cases eb
              · have SK2 := Lib.hid (SK1.out (fun e => by have := (HDEC.out.1 e).1; cases this))
                go_wp2_with fail
                go_roundg (gk - 1)
                case measure => omega
                case rel => exact ⟨k + 1, lf, by omega, by omega, SK2.out.1, by go_num, rfl, HBR3.out.trans (HB20.out.mono HBR3.out.size), by rw [SK2.out.2]; exact HOW3.out.later HB20.out⟩
              have c1 := (HSO.out w20 HB20.out).1
              have HD3 := Lib.hid (show (p : Int) < v → (bay = false ∨ (pb : Int) < bs) → ig st k = (hour : Int) from fun h2 h3 => HDEC.out.2 ⟨rfl, h2, fun h4 => h3.resolve_left (by rw [h4]; simp)⟩)
              have HD4 := Lib.hid (show ig st k = (hour : Int) → (p : Int) < v ∧ (bay = false ∨ (pb : Int) < bs) from fun e => ⟨(HDEC.out.1 e).2.1, by
                have h := (HDEC.out.1 e).2.2
                cases hb : bay
                · exact .inl rfl
                · exact .inr (h hb)⟩)
              clear HDEC
              go_wp2_with fail
              refine Calls.mono (HRUN.out w20 HB20.out) ?_
              rintro e w21 ⟨rfl, hb21⟩
              have HB21 := Lib.hid (HB20.out.trans (hb21.mono HB20.out.size))
              have HS21 := Lib.hid (fun (wy : World) (hy : Below w21.heap.size w21 wy) => HSO.out wy (HB21.out.trans (hy.mono HB21.out.size)))
              clear c1 hb21
              go_upto_region 22 with fail
              have m1 : (usk : Int) < (q : Int) := by have := HSKQ.out; omega
              have m0 : (0 : Int) ≤ (usk : Int) := by omega
              by_cases hpv : (p : Int) < v
              case neg =>
                have hne : ig st k ≠ (hour : Int) := fun e => hpv (HD4.out e).1
                have hS := HS21.out
                refine wp_flow_s [] [] (by kernel_rfl) (by kernel_rfl) (by kernel_rfl) ?_
                repeat (first | ((with_reducible refine Flow.pure hS StayG.nil (v := ?_) ?_ ?_ ?_ ?_); rotate_left 1; (focus kernel_rfl); (focus (intro _; rfl)); (focus (intro β wx hSw; (try dsimp only at hSw); go_simp; (try with_reducible rfl); done)); (try simp only [Act.put, List.setIfInBounds_toArray, List.set_cons_zero, List.set_cons_succ, Nat.reduceAdd])) | ((with_reducible refine Flow.skip StayG.nil ?_ ?_ ?_); (focus kernel_rfl); (focus (intro _; rfl)); (try simp only [Act.put, List.setIfInBounds_toArray, List.set_cons_zero, List.set_cons_succ, Nat.reduceAdd])))
                ((with_reducible refine Flow.stop ?_); dsimp only; intro β w22 hI22)
                have HB22 := Lib.hid (HB21.out.trans (hI22.below.mono HB21.out.size))
                clear hS hI22
                have SK2 := Lib.hid (SK1.out hne)
                clear hne
                go_wp2_with fail
                go_roundg (gk - 1)
                case measure => omega
                case rel => exact ⟨k + 1, lf, by omega, by omega, SK2.out.1, by go_num, rfl, HBR3.out.trans (HB22.out.mono HBR3.out.size), by rw [SK2.out.2]; exact HOW3.out.later HB22.out⟩
              cases bay
              · have he := HD3.out hpv (.inl rfl)
                have HE := Lib.hid he
                clear he
                have hS := HS21.out
                have he := HE.out
                refine wp_flow_s [] [] (by kernel_rfl) (by kernel_rfl) (by kernel_rfl) ?_
                repeat (first | ((with_reducible refine Flow.pure hS StayG.nil (v := ?_) ?_ ?_ ?_ ?_); rotate_left 1; (focus kernel_rfl); (focus (intro _; rfl)); (focus (intro β wx hSw; (try dsimp only at hSw); go_simp; (try with_reducible rfl); done)); (try simp only [Act.put, List.setIfInBounds_toArray, List.set_cons_zero, List.set_cons_succ, Nat.reduceAdd])) | ((with_reducible refine Flow.skip StayG.nil ?_ ?_ ?_); (focus kernel_rfl); (focus (intro _; rfl)); (try simp only [Act.put, List.setIfInBounds_toArray, List.set_cons_zero, List.set_cons_succ, Nat.reduceAdd])))
                ((with_reducible refine Flow.stop ?_); dsimp only; intro β w22 hI22)
                have HB22 := Lib.hid (HB21.out.trans (hI22.below.mono HB21.out.size))
                clear hS hI22
                obtain ⟨cK, fK⟩ := HAK.out w22 HB22.out
                have hcn := cnt_begin (n := i) hlt he
                have hle := cntP_le (bgn st hour (k + 1)) i
                have hlf := HLF3.out
                obtain ⟨lf2, hl2⟩ : ∃ x, lf = x + 1 := ⟨lf - 1, by omega⟩
                subst hl2
                have HL2 := Lib.hid (show lf2 + cntP (bgn st hour (k + 1)) i = i from by omega)
                have hl40 : lf2 + 1 ≤ 40 := by omega
                have how5 : OwnI (w22.setCell ⟨A, k, none⟩ (.int .i64 hour)) w3.heap.size (.slice (some ⟨A, 0, none⟩) i c) (begL i st hour (k + 1)) := by
                  have h0 := HOW3.out.later HB22.out
                  have h1 : OwnI w22 w3.heap.size (.slice (some ⟨A, 0, none⟩) (begL i st hour k).length c) (begL i st hour k) := by rw [begL_len]; exact h0
                  have h2 := h1.setC k hour
                  rw [begL_len, ← begL_begin hlt he] at h2
                  exact h2
                have HOW5 := Lib.hid how5
                have HB23 := Lib.hid (show Below w3.heap.size w3 (w22.setCell ⟨A, k, none⟩ (.int .i64 hour)) from (HBR3.out.trans (HB22.out.mono HBR3.out.size)).setCell (by exact HPA.out) _)
                clear hcn hle hlf how5 he
                go_wp2_with fail
                go_roundg (gk - 1)
                case measure => omega
                case rel => exact ⟨k + 1, lf2, by omega, by omega, HL2.out, by go_num, by go_num, HB23.out, HOW5.out⟩
              by_cases hbp : (pb : Int) < bs
              · have he := HD3.out hpv (.inr hbp)
                have HE := Lib.hid he
                clear he
                have hS := HS21.out
                have he := HE.out
                refine wp_flow_s [] [] (by kernel_rfl) (by kernel_rfl) (by kernel_rfl) ?_
                repeat (first | ((with_reducible refine Flow.pure hS StayG.nil (v := ?_) ?_ ?_ ?_ ?_); rotate_left 1; (focus kernel_rfl); (focus (intro _; rfl)); (focus (intro β wx hSw; (try dsimp only at hSw); go_simp; (try with_reducible rfl); done)); (try simp only [Act.put, List.setIfInBounds_toArray, List.set_cons_zero, List.set_cons_succ, Nat.reduceAdd])) | ((with_reducible refine Flow.skip StayG.nil ?_ ?_ ?_); (focus kernel_rfl); (focus (intro _; rfl)); (try simp only [Act.put, List.setIfInBounds_toArray, List.set_cons_zero, List.set_cons_succ, Nat.reduceAdd])))
                ((with_reducible refine Flow.stop ?_); dsimp only; intro β w22 hI22)
                have HB22 := Lib.hid (HB21.out.trans (hI22.below.mono HB21.out.size))
                clear hS hI22
                obtain ⟨cK, fK⟩ := HAK.out w22 HB22.out
                have hcn := cnt_begin (n := i) hlt he
                have hle := cntP_le (bgn st hour (k + 1)) i
                have hlf := HLF3.out
                obtain ⟨lf2, hl2⟩ : ∃ x, lf = x + 1 := ⟨lf - 1, by omega⟩
                subst hl2
                have HL2 := Lib.hid (show lf2 + cntP (bgn st hour (k + 1)) i = i from by omega)
                have hl40 : lf2 + 1 ≤ 40 := by omega
                have how5 : OwnI (w22.setCell ⟨A, k, none⟩ (.int .i64 hour)) w3.heap.size (.slice (some ⟨A, 0, none⟩) i c) (begL i st hour (k + 1)) := by
                  have h0 := HOW3.out.later HB22.out
                  have h1 : OwnI w22 w3.heap.size (.slice (some ⟨A, 0, none⟩) (begL i st hour k).length c) (begL i st hour k) := by rw [begL_len]; exact h0
                  have h2 := h1.setC k hour
                  rw [begL_len, ← begL_begin hlt he] at h2
                  exact h2
                have HOW5 := Lib.hid how5
                have HB23 := Lib.hid (show Below w3.heap.size w3 (w22.setCell ⟨A, k, none⟩ (.int .i64 hour)) from (HBR3.out.trans (HB22.out.mono HBR3.out.size)).setCell (by exact HPA.out) _)
                clear hcn hle hlf how5 he
                go_wp2_with fail
                go_roundg (gk - 1)
                case measure => omega
                case rel => exact ⟨k + 1, lf2, by omega, by omega, HL2.out, by go_num, by go_num, HB23.out, HOW5.out⟩
              · have hne : ig st k ≠ (hour : Int) := fun e => hbp ((HD4.out e).2.resolve_left (by simp))
                have hS := HS21.out
                refine wp_flow_s [] [] (by kernel_rfl) (by kernel_rfl) (by kernel_rfl) ?_
                repeat (first | ((with_reducible refine Flow.pure hS StayG.nil (v := ?_) ?_ ?_ ?_ ?_); rotate_left 1; (focus kernel_rfl); (focus (intro _; rfl)); (focus (intro β wx hSw; (try dsimp only at hSw); go_simp; (try with_reducible rfl); done)); (try simp only [Act.put, List.setIfInBounds_toArray, List.set_cons_zero, List.set_cons_succ, Nat.reduceAdd])) | ((with_reducible refine Flow.skip StayG.nil ?_ ?_ ?_); (focus kernel_rfl); (focus (intro _; rfl)); (try simp only [Act.put, List.setIfInBounds_toArray, List.set_cons_zero, List.set_cons_succ, Nat.reduceAdd])))
                ((with_reducible refine Flow.stop ?_); dsimp only; intro β w22 hI22)
                have HB22 := Lib.hid (HB21.out.trans (hI22.below.mono HB21.out.size))
                clear hS hI22
                have SK2 := Lib.hid (SK1.out hne)
                clear hne
                go_wp2_with fail
                go_roundg (gk - 1)
                case measure => omega
                case rel => exact ⟨k + 1, lf, by omega, by omega, SK2.out.1, by go_num, rfl, HBR3.out.trans (HB22.out.mono HBR3.out.size), by rw [SK2.out.2]; exact HOW3.out.later HB22.out⟩
            · obtain rfl : k = i := by omega
              have HLL := Lib.hid (show lf + cntP (bgn st ((hour : Int) + 1) 0) k = k from by rw [← cntP_congr (n := k) fun j hj => bgn_next (st := st) (h := (hour : Int)) hj]; exact HLF3.out)
              have hown := HOW3.out
              rw [begL_congr (n := k) fun j hj => bgn_next (st := st) (h := (hour : Int)) hj] at hown
              have HOWN := Lib.hid hown
              have hhb : (hour : Int) ≤ 40000 := HH4.out
              clear hown hlt
              go_wp2_with fail
              go_roundg (40002 - hour)
              case measure => exact HGO.out
              case rel => exact ⟨hour + 1, lf, by omega, HLL.out, by go_num, rfl, HBR3.out, HOWN.out⟩
end Go.Proofs.Ytoblmecgnpoogaa
