

/- Package shop's reference: Valid, Can. -/
import Derived.Test.YtoblmecgnpoogaaShpY
import Derived.Test.YtoblmecgnpoogaaShpW
namespace Go.Proofs.Ytoblmecgnpoogaa
open Go.RowKit

noncomputable def vsV (s : Sh) : Bool := @decide (VS s) (Classical.propDecidable _)
theorem vsV_iff (s : Sh) : vsV s = true ↔ VS s := by
  unfold vsV
  exact @decide_eq_true_iff _ (Classical.propDecidable _)
theorem vsV_no {s : Sh} (h : ¬ VS s) : vsV s = false := @decide_eq_false _ (Classical.propDecidable _) h
set_option maxRecDepth 100000 in
set_option maxHeartbeats 4000000 in
theorem rshop_any (s : Sh) (sa : Option Addr) (sc : Nat) (w : World) (hI : Ints w sa s.staff) (hq20 : s.staff.length ≤ 20) :
    Calls Try.prog 20 #[shV s sa sc] w (RetB (.bool (vsV s)) w) := by
  obtain ⟨q, hq⟩ : ∃ n, n = s.staff.length := ⟨_, rfl⟩
  obtain ⟨bs, hbs⟩ : ∃ n, n = s.bays := ⟨_, rfl⟩
  obtain ⟨r, hr⟩ : ∃ r, r = vsV s := ⟨_, rfl⟩
  have HI := Lib.hid hI
  have HQ := Lib.hid hq
  have HBS := Lib.hid hbs
  have HR := Lib.hid hr
  rw [← hq] at hq20
  unfold shV
  rw [← hq, ← hbs, ← hr]
  clear hI hq hbs hr
  go_enter Try.func20, Try.ntmps20
  go_upto_region 1 with fail
  obtain ⟨wX, P, hP, hbX, hBX, hwX⟩ : ∃ wX P, P = w.heap.size ∧ Below w.heap.size w wX ∧ BoxAt wX P [.slice sa q sc, .int .i64 bs] ∧ wX = w.alloc (.cells #[.slice sa q sc, .int .i64 bs] 25) := ⟨_, _, rfl, (Below.refl _ _).alloc (Nat.le_refl _) _, BoxAt.new w _ _, rfl⟩
  rw [← hwX, ← hP]
  have HBX := Lib.hid hbX
  have c0 := (hBX 0 _ rfl).1
  have c1 := (hBX 1 _ rfl).1
  clear hP hbX hBX hwX
  go_wp2_with fail
  go_loopg [3] (q + 1) (fun gk v3 wr => ∃ i : Nat, i ≤ q ∧ gk + i = q + 1 ∧ v3 = .int .i64 i ∧ wX = wr ∧ ∀ j, j < i → 0 ≤ ig s.staff j ∧ ig s.staff j ≤ 60)
  case atStart => exact ⟨0, by omega, by omega, rfl, rfl, fun j hj => absurd hj (by omega)⟩
  case round =>
    obtain ⟨i, hi, hgi, rfl, rfl, hall⟩ := hrel
    have HALL := Lib.hid hall
    clear hall
    by_cases hlt : i < q
    · obtain ⟨vb, vo, rfl, fv⟩ := (HI.out.later HBX.out).fam (by rw [← HQ.out]; omega)
      have cv := fv i (by rw [← HQ.out]; exact hlt)
      obtain ⟨v, hv⟩ : ∃ v, v = ig s.staff i := ⟨_, rfl⟩
      rw [← hv] at cv
      have HVE := Lib.hid hv
      have n1 : (i : Int) < (q : Int) := by omega
      have n0 : (0 : Int) ≤ (i : Int) := by omega
      have HNO := Lib.hid (show (v < 0 ∨ 60 < v) → r = false from fun h => HR.out.trans (vsV_no fun hvs => by
        have := hvs.2.1 _ (ig_mem (l := s.staff) (i := i) (by rw [← HQ.out]; exact hlt))
        rw [← HVE.out] at this
        omega))
      clear fv hv
      by_cases h0 : v < 0
      · have HE := Lib.hid (HNO.out (.inl h0))
        go_wp2_with fail
        go_ret
        exact retB (vbool HE.out.symm) HBX.out
      by_cases h1 : 60 < v
      · have HE := Lib.hid (HNO.out (.inr h1))
        go_wp2_with fail
        go_ret
        exact retB (vbool HE.out.symm) HBX.out
      have HV2 := Lib.hid (show 0 ≤ ig s.staff i ∧ ig s.staff i ≤ 60 from by rw [← HVE.out]; omega)
      go_wp2_with fail
      go_roundg (gk - 1)
      case measure => omega
      case rel => exact ⟨i + 1, by omega, by omega, by go_num, rfl, fun j hj => by
        rcases Nat.lt_succ_iff_lt_or_eq.1 hj with h | h
        · exact HALL.out j h
        · subst h; exact HV2.out⟩
    · obtain rfl : i = q := by omega
      have hE : r = (decide (i ≤ 8) && (decide (0 ≤ bs) && decide (bs ≤ 60))) := by
        rw [HR.out]
        by_cases h : i ≤ 8 ∧ 0 ≤ bs ∧ bs ≤ 60
        · rw [(vsV_iff s).2 ⟨by rw [← HQ.out]; exact h.1, fun x hx => ?_, by rw [← HBS.out]; exact h.2.1, by rw [← HBS.out]; exact h.2.2⟩]
          · simp [h.1, h.2.1, h.2.2]
          · obtain ⟨j, hj, rfl⟩ := List.getElem_of_mem hx
            rw [← ig_lt hj]
            exact HALL.out j (by rw [HQ.out]; exact hj)
        · rw [vsV_no fun hvs => h ⟨by rw [HQ.out]; exact hvs.1, by rw [HBS.out]; exact hvs.2.2.1, by rw [HBS.out]; exact hvs.2.2.2⟩]
          by_cases h1 : i ≤ 8
          · by_cases h2 : 0 ≤ bs
            · have h3 : ¬ bs ≤ 60 := fun h3 => h ⟨h1, h2, h3⟩
              simp [h3]
            · simp [h2]
          · simp [h1]
      have HE := Lib.hid hE
      clear hE hlt
      by_cases h1 : (i : Int) ≤ 8
      · by_cases h2 : 0 ≤ bs
        · by_cases h3 : bs ≤ 60
          · have HF := Lib.hid (show r = true from by rw [HE.out, decide_eq_true (p := i ≤ 8) (by omega), decide_eq_true h2, decide_eq_true h3]; rfl)
            go_wp2_with fail
            go_ret
            exact retB (vbool HF.out.symm) HBX.out
          · have HF := Lib.hid (show r = false from by rw [HE.out, decide_eq_false h3]; simp)
            go_wp2_with fail
            go_ret
            exact retB (vbool HF.out.symm) HBX.out
        · have HF := Lib.hid (show r = false from by rw [HE.out, decide_eq_false h2]; simp)
          go_wp2_with fail
          go_ret
          exact retB (vbool HF.out.symm) HBX.out
      · have HF := Lib.hid (show r = false from by rw [HE.out, decide_eq_false (p := i ≤ 8) (by omega)]; simp)
        go_wp2_with fail
        go_ret
        exact retB (vbool HF.out.symm) HBX.out
end Go.Proofs.Ytoblmecgnpoogaa
