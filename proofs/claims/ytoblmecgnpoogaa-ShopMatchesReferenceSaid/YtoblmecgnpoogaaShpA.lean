
/- slices.ContainsFunc of numbers, for predicates that only read. -/
import Derived.Test.YtoblmecgnpoogaaProg
import Derived.Test.YtoblmecgnpoogaaData
namespace Go.Proofs.Ytoblmecgnpoogaa
open Go.RowKit

/-- where the first one stands -/
def fstI (P : Int → Bool) (l : List Int) : Int := match l.findIdx? P with | some i => (i : Int) | none => -1
theorem fstI_at {P : Int → Bool} {l : List Int} {q : Nat} (hq : q < l.length) (h : ∀ r, r < q → P (ig l r) = false) (h' : P (ig l q) = true) : fstI P l = q := by
  have e : l.findIdx? P = some q := by
    rw [List.findIdx?_eq_some_iff_getElem]
    refine ⟨hq, by rw [ig_lt hq] at h'; exact h', fun j hj => ?_⟩
    have := h j hj
    rw [ig_lt (by omega)] at this
    simp [this]
  unfold fstI
  rw [e]
theorem fstI_none {P : Int → Bool} {l : List Int} (h : ∀ r, r < l.length → P (ig l r) = false) : fstI P l = -1 := by
  have e : l.findIdx? P = none := by
    rw [List.findIdx?_eq_none_iff]
    intro x hx
    obtain ⟨i, hi, rfl⟩ := List.getElem_of_mem hx
    have := h i hi
    rw [ig_lt hi] at this
    exact this
  unfold fstI
  rw [e]
theorem fstI_any (P : Int → Bool) (l : List Int) : decide (fstI P l ≥ 0) = l.any P := by
  by_cases h : ∀ r, r < l.length → P (ig l r) = false
  · rw [fstI_none h]
    symm
    rw [List.any_eq_false.2]
    · rfl
    · intro x hx
      obtain ⟨i, hi, rfl⟩ := List.getElem_of_mem hx
      have := h i hi
      rw [ig_lt hi] at this
      simp [this]
  · have : ∃ r, r < l.length ∧ P (ig l r) = true := by
      refine Classical.byContradiction fun hn => h fun r hr => ?_
      cases hb : P (ig l r)
      · rfl
      · exact absurd ⟨r, hr, hb⟩ hn
    obtain ⟨r, hr, hb⟩ := this
    have e2 : l.any P = true := List.any_eq_true.2 ⟨_, ig_mem hr, hb⟩
    rw [e2]
    unfold fstI
    cases e : l.findIdx? P with
    | some i => simp
    | none =>
      rw [List.findIdx?_eq_none_iff] at e
      have := e (ig l r) (ig_mem hr)
      rw [hb] at this
      cases this
set_option maxHeartbeats 1000000 in
theorem index_valid (l : List Int) (P : Int → Bool) (a : Option Addr) (cap : Nat) (w : World) (hL : Ints w a l) (hl : l.length < 9223372036854775807)
    (hP : ∀ r, r < l.length → Calls Try.prog 43 #[.int .i64 (ig l r)] w (RetS (.bool (P (ig l r))) w)) :
    Calls Try.prog 46 #[.slice a l.length cap, .func (.func 43) #[] #[]] w (RetS (.int .i64 (fstI P l)) w) := by
  have HP := Lib.hid hP
  obtain ⟨res, hres⟩ : ∃ res, res = fstI P l := ⟨_, rfl⟩
  have HRES := Lib.hid hres
  rw [← hres]
  clear hP hres
  go_enter Try.func46, Try.ntmps46
  go_wp2
  go_loopg [8] (l.length + 1) (fun k v8 wr => ∃ q : Nat, q ≤ l.length ∧ k + q = l.length + 1 ∧ v8 = .int .i64 q ∧ w = wr ∧ ∀ r, r < q → P (ig l r) = false)
  case atStart => exact ⟨0, by omega, by omega, rfl, rfl, fun r hr => absurd hr (by omega)⟩
  case round =>
    obtain ⟨q, hq, hk, rfl, rfl, hall⟩ := hrel
    have HA := Lib.hid hall
    clear hall
    by_cases hlt : q < l.length
    · obtain ⟨ab, aoff, rfl, fa⟩ := hL.fam (by omega)
      have hcq := fa q hlt
      have hp := HP.out q hlt
      obtain ⟨x, hx⟩ : ∃ x, x = ig l q := ⟨_, rfl⟩
      rw [← hx] at hcq hp
      have HX := Lib.hid hx
      have HPX := Lib.hid hp
      have n1 : (q : Int) < (l.length : Int) := by omega
      have n0 : (0 : Int) ≤ (q : Int) := by omega
      clear fa hx hp
      cases hd : P x
      · have HD := Lib.hid (show P (ig l q) = false from by rw [← HX.out]; exact hd)
        go_wp2_with fail
        refine Calls.mono HPX.out ?_
        rintro e w1 ⟨rfl, rfl⟩
        rw [hd]
        clear hd
        go_wp2
        go_roundg (gk - 1)
        case measure => omega
        case rel => exact ⟨q + 1, by omega, by omega, by go_num, rfl, fun r hr => by
          rcases Nat.lt_succ_iff_lt_or_eq.1 hr with h | h
          · exact HA.out r h
          · subst h; exact HD.out⟩
      · have HE := Lib.hid (show res = (q : Int) from HRES.out.trans (fstI_at hlt HA.out (by rw [← HX.out]; exact hd)))
        go_wp2_with fail
        refine Calls.mono HPX.out ?_
        rintro e w1 ⟨rfl, rfl⟩
        rw [hd]
        clear hd
        go_wp2
        go_ret
        exact retS (vint HE.out.symm)
    · have HE := Lib.hid (show res = -1 from HRES.out.trans (fstI_none fun r hr => HA.out r (by omega)))
      go_wp2
      go_ret
      exact retS (vint HE.out.symm)
set_option maxHeartbeats 1000000 in
theorem contains_valid (l : List Int) (P : Int → Bool) (a : Option Addr) (cap : Nat) (w : World) (hL : Ints w a l) (hl : l.length < 9223372036854775807)
    (hP : ∀ r, r < l.length → Calls Try.prog 43 #[.int .i64 (ig l r)] w (RetS (.bool (P (ig l r))) w)) :
    Calls Try.prog 29 #[.slice a l.length cap, .func (.func 43) #[] #[]] w (RetS (.bool (l.any P)) w) := by
  have HC := Lib.hid (index_valid l P a cap w hL hl hP)
  have HR := Lib.hid (fstI_any P l)
  clear hP
  go_enter Try.func29, Try.ntmps29
  go_wp2_with fail
  refine Calls.mono HC.out ?_
  rintro e w1 ⟨rfl, rfl⟩
  go_wp2
  go_ret
  exact retS (vbool HR.out)
set_option maxHeartbeats 1000000 in
theorem index_hours (l : List Int) (P : Int → Bool) (a : Option Addr) (cap : Nat) (w : World) (hL : Ints w a l) (hl : l.length < 9223372036854775807)
    (hP : ∀ r, r < l.length → Calls Try.prog 52 #[.int .i64 (ig l r)] w (RetS (.bool (P (ig l r))) w)) :
    Calls Try.prog 46 #[.slice a l.length cap, .func (.func 52) #[] #[]] w (RetS (.int .i64 (fstI P l)) w) := by
  have HP := Lib.hid hP
  obtain ⟨res, hres⟩ : ∃ res, res = fstI P l := ⟨_, rfl⟩
  have HRES := Lib.hid hres
  rw [← hres]
  clear hP hres
  go_enter Try.func46, Try.ntmps46
  go_wp2
  go_loopg [8] (l.length + 1) (fun k v8 wr => ∃ q : Nat, q ≤ l.length ∧ k + q = l.length + 1 ∧ v8 = .int .i64 q ∧ w = wr ∧ ∀ r, r < q → P (ig l r) = false)
  case atStart => exact ⟨0, by omega, by omega, rfl, rfl, fun r hr => absurd hr (by omega)⟩
  case round =>
    obtain ⟨q, hq, hk, rfl, rfl, hall⟩ := hrel
    have HA := Lib.hid hall
    clear hall
    by_cases hlt : q < l.length
    · obtain ⟨ab, aoff, rfl, fa⟩ := hL.fam (by omega)
      have hcq := fa q hlt
      have hp := HP.out q hlt
      obtain ⟨x, hx⟩ : ∃ x, x = ig l q := ⟨_, rfl⟩
      rw [← hx] at hcq hp
      have HX := Lib.hid hx
      have HPX := Lib.hid hp
      have n1 : (q : Int) < (l.length : Int) := by omega
      have n0 : (0 : Int) ≤ (q : Int) := by omega
      clear fa hx hp
      cases hd : P x
      · have HD := Lib.hid (show P (ig l q) = false from by rw [← HX.out]; exact hd)
        go_wp2_with fail
        refine Calls.mono HPX.out ?_
        rintro e w1 ⟨rfl, rfl⟩
        rw [hd]
        clear hd
        go_wp2
        go_roundg (gk - 1)
        case measure => omega
        case rel => exact ⟨q + 1, by omega, by omega, by go_num, rfl, fun r hr => by
          rcases Nat.lt_succ_iff_lt_or_eq.1 hr with h | h
          · exact HA.out r h
          · subst h; exact HD.out⟩
      · have HE := Lib.hid (show res = (q : Int) from HRES.out.trans (fstI_at hlt HA.out (by rw [← HX.out]; exact hd)))
        go_wp2_with fail
        refine Calls.mono HPX.out ?_
        rintro e w1 ⟨rfl, rfl⟩
        rw [hd]
        clear hd
        go_wp2
        go_ret
        exact retS (vint HE.out.symm)
    · have HE := Lib.hid (show res = -1 from HRES.out.trans (fstI_none fun r hr => HA.out r (by omega)))
      go_wp2
      go_ret
      exact retS (vint HE.out.symm)
set_option maxHeartbeats 1000000 in
theorem contains_hours (l : List Int) (P : Int → Bool) (a : Option Addr) (cap : Nat) (w : World) (hL : Ints w a l) (hl : l.length < 9223372036854775807)
    (hP : ∀ r, r < l.length → Calls Try.prog 52 #[.int .i64 (ig l r)] w (RetS (.bool (P (ig l r))) w)) :
    Calls Try.prog 29 #[.slice a l.length cap, .func (.func 52) #[] #[]] w (RetS (.bool (l.any P)) w) := by
  have HC := Lib.hid (index_hours l P a cap w hL hl hP)
  have HR := Lib.hid (fstI_any P l)
  clear hP
  go_enter Try.func29, Try.ntmps29
  go_wp2_with fail
  refine Calls.mono HC.out ?_
  rintro e w1 ⟨rfl, rfl⟩
  go_wp2
  go_ret
  exact retS (vbool HR.out)
set_option maxHeartbeats 1000000 in
theorem index_plan (l : List Int) (P : Int → Bool) (c1 : Value) (a : Option Addr) (cap : Nat) (w : World) (hL : Ints w a l) (hl : l.length < 9223372036854775807)
    (hP : ∀ r, r < l.length → Calls Try.prog 30 #[.int .i64 (ig l r), c1] w (RetS (.bool (P (ig l r))) w)) :
    Calls Try.prog 46 #[.slice a l.length cap, .func (.func 30) #[] #[c1]] w (RetS (.int .i64 (fstI P l)) w) := by
  have HP := Lib.hid hP
  obtain ⟨res, hres⟩ : ∃ res, res = fstI P l := ⟨_, rfl⟩
  have HRES := Lib.hid hres
  rw [← hres]
  clear hP hres
  go_enter Try.func46, Try.ntmps46
  go_wp2
  go_loopg [8] (l.length + 1) (fun k v8 wr => ∃ q : Nat, q ≤ l.length ∧ k + q = l.length + 1 ∧ v8 = .int .i64 q ∧ w = wr ∧ ∀ r, r < q → P (ig l r) = false)
  case atStart => exact ⟨0, by omega, by omega, rfl, rfl, fun r hr => absurd hr (by omega)⟩
  case round =>
    obtain ⟨q, hq, hk, rfl, rfl, hall⟩ := hrel
    have HA := Lib.hid hall
    clear hall
    by_cases hlt : q < l.length
    · obtain ⟨ab, aoff, rfl, fa⟩ := hL.fam (by omega)
      have hcq := fa q hlt
      have hp := HP.out q hlt
      obtain ⟨x, hx⟩ : ∃ x, x = ig l q := ⟨_, rfl⟩
      rw [← hx] at hcq hp
      have HX := Lib.hid hx
      have HPX := Lib.hid hp
      have n1 : (q : Int) < (l.length : Int) := by omega
      have n0 : (0 : Int) ≤ (q : Int) := by omega
      clear fa hx hp
      cases hd : P x
      · have HD := Lib.hid (show P (ig l q) = false from by rw [← HX.out]; exact hd)
        go_wp2_with fail
        refine Calls.mono HPX.out ?_
        rintro e w1 ⟨rfl, rfl⟩
        rw [hd]
        clear hd
        go_wp2
        go_roundg (gk - 1)
        case measure => omega
        case rel => exact ⟨q + 1, by omega, by omega, by go_num, rfl, fun r hr => by
          rcases Nat.lt_succ_iff_lt_or_eq.1 hr with h | h
          · exact HA.out r h
          · subst h; exact HD.out⟩
      · have HE := Lib.hid (show res = (q : Int) from HRES.out.trans (fstI_at hlt HA.out (by rw [← HX.out]; exact hd)))
        go_wp2_with fail
        refine Calls.mono HPX.out ?_
        rintro e w1 ⟨rfl, rfl⟩
        rw [hd]
        clear hd
        go_wp2
        go_ret
        exact retS (vint HE.out.symm)
    · have HE := Lib.hid (show res = -1 from HRES.out.trans (fstI_none fun r hr => HA.out r (by omega)))
      go_wp2
      go_ret
      exact retS (vint HE.out.symm)
set_option maxHeartbeats 1000000 in
theorem contains_plan (l : List Int) (P : Int → Bool) (c1 : Value) (a : Option Addr) (cap : Nat) (w : World) (hL : Ints w a l) (hl : l.length < 9223372036854775807)
    (hP : ∀ r, r < l.length → Calls Try.prog 30 #[.int .i64 (ig l r), c1] w (RetS (.bool (P (ig l r))) w)) :
    Calls Try.prog 29 #[.slice a l.length cap, .func (.func 30) #[] #[c1]] w (RetS (.bool (l.any P)) w) := by
  have HC := Lib.hid (index_plan l P c1 a cap w hL hl hP)
  have HR := Lib.hid (fstI_any P l)
  clear hP
  go_enter Try.func29, Try.ntmps29
  go_wp2_with fail
  refine Calls.mono HC.out ?_
  rintro e w1 ⟨rfl, rfl⟩
  go_wp2
  go_ret
  exact retS (vbool HR.out)
set_option maxHeartbeats 1000000 in
theorem index_check (l : List Int) (P : Int → Bool) (c1 c2 c3 : Value) (a : Option Addr) (cap : Nat) (w : World) (hL : Ints w a l) (hl : l.length < 9223372036854775807)
    (hP : ∀ wy, Below w.heap.size w wy → ∀ r, r < l.length → Calls Try.prog 40 #[.int .i64 (ig l r), c1, c2, c3] wy (RetB (.bool (P (ig l r))) wy)) :
    Calls Try.prog 46 #[.slice a l.length cap, .func (.func 40) #[] #[c1, c2, c3]] w (RetB (.int .i64 (fstI P l)) w) := by
  have HP := Lib.hid hP
  have HL := Lib.hid hL
  obtain ⟨res, hres⟩ : ∃ res, res = fstI P l := ⟨_, rfl⟩
  have HRES := Lib.hid hres
  rw [← hres]
  clear hP hres hL
  go_enter Try.func46, Try.ntmps46
  go_wp2
  go_loopg [8] (l.length + 1) (fun k v8 wr => ∃ q : Nat, q ≤ l.length ∧ k + q = l.length + 1 ∧ v8 = .int .i64 q ∧ Below w.heap.size w wr ∧ ∀ r, r < q → P (ig l r) = false)
  case atStart => exact ⟨0, by omega, by omega, rfl, Below.refl _ _, fun r hr => absurd hr (by omega)⟩
  case round =>
    obtain ⟨q, hq, hk, rfl, hbr, hall⟩ := hrel
    have HBR := Lib.hid hbr
    have HA := Lib.hid hall
    clear hall
    by_cases hlt : q < l.length
    · obtain ⟨ab, aoff, rfl, fa⟩ := (HL.out.later hbr).fam (by omega)
      have hcq := fa q hlt
      have hp := HP.out wr hbr q hlt
      obtain ⟨x, hx⟩ : ∃ x, x = ig l q := ⟨_, rfl⟩
      rw [← hx] at hcq hp
      have HX := Lib.hid hx
      have HPX := Lib.hid hp
      have n1 : (q : Int) < (l.length : Int) := by omega
      have n0 : (0 : Int) ≤ (q : Int) := by omega
      clear fa hx hp
      cases hd : P x
      · have HD := Lib.hid (show P (ig l q) = false from by rw [← HX.out]; exact hd)
        go_wp2_with fail
        refine Calls.mono HPX.out ?_
        rintro e w1 ⟨rfl, hb1⟩
        have HB1 := Lib.hid (HBR.out.trans (hb1.mono HBR.out.size))
        clear hb1
        rw [hd]
        clear hd
        go_wp2
        go_roundg (gk - 1)
        case measure => omega
        case rel => exact ⟨q + 1, by omega, by omega, by go_num, HB1.out, fun r hr => by
          rcases Nat.lt_succ_iff_lt_or_eq.1 hr with h | h
          · exact HA.out r h
          · subst h; exact HD.out⟩
      · have HE := Lib.hid (show res = (q : Int) from HRES.out.trans (fstI_at hlt HA.out (by rw [← HX.out]; exact hd)))
        go_wp2_with fail
        refine Calls.mono HPX.out ?_
        rintro e w1 ⟨rfl, hb1⟩
        have HB1 := Lib.hid (HBR.out.trans (hb1.mono HBR.out.size))
        clear hb1
        rw [hd]
        clear hd
        go_wp2
        go_ret
        exact retB (vint HE.out.symm) HB1.out
    · have HE := Lib.hid (show res = -1 from HRES.out.trans (fstI_none fun r hr => HA.out r (by omega)))
      go_wp2
      go_ret
      exact retB (vint HE.out.symm) HBR.out
set_option maxHeartbeats 1000000 in
theorem contains_check (l : List Int) (P : Int → Bool) (c1 c2 c3 : Value) (a : Option Addr) (cap : Nat) (w : World) (hL : Ints w a l) (hl : l.length < 9223372036854775807)
    (hP : ∀ wy, Below w.heap.size w wy → ∀ r, r < l.length → Calls Try.prog 40 #[.int .i64 (ig l r), c1, c2, c3] wy (RetB (.bool (P (ig l r))) wy)) :
    Calls Try.prog 29 #[.slice a l.length cap, .func (.func 40) #[] #[c1, c2, c3]] w (RetB (.bool (l.any P)) w) := by
  have HC := Lib.hid (index_check l P c1 c2 c3 a cap w hL hl hP)
  have HR := Lib.hid (fstI_any P l)
  clear hP
  go_enter Try.func29, Try.ntmps29
  go_wp2_with fail
  refine Calls.mono HC.out ?_
  rintro e w1 ⟨rfl, hb1⟩
  have HB1 := Lib.hid hb1
  clear hb1
  go_wp2
  go_ret
  exact retB (vbool HR.out) HB1.out
end Go.Proofs.Ytoblmecgnpoogaa

