
/- Contracts of package interval's functions over this seat's program, part one. -/
import Derived.Test.YtegpdggadjjmkaaProg
import Derived.Test.YtegpdggadjjmkaaBase
namespace Go.Proofs.Ytegpdggadjjmkaa
open Go.RowKit

def sat (n : Int) : Int := max (-1000000000000) (min n 1000000000000)
def vld (a b : Int) : Bool := decide (-1000000000000 ≤ a ∧ a ≤ b ∧ b ≤ 1000000000000)
def tru (a : Int) : Int := if a = 0 then 0 else if a = 2 then 2 else 1
def over (a b n : Int) : Int := if vld a b = false ∨ b ≤ n then 0 else if n < a then 2 else 1

set_option maxHeartbeats 400000 in
theorem saturated_any (a : Int) (w : World) : Calls Try.prog 41 #[.int .i64 a] w (RetS (.int .i64 (sat a)) w) := by
  go_enter Try.func41, Try.ntmps41
  go_wp2
  all_goals (go_ret; refine retS (vint ?_); unfold sat; omega)

set_option maxHeartbeats 400000 in
theorem truth_any (a : Int) (w : World) : Calls Try.prog 34 #[.int .i64 a] w (RetS (.int .i64 (tru a)) w) := by
  by_cases h0 : a = 0
  · subst h0
    go_enter Try.func34, Try.ntmps34
    go_wp2
    go_ret
    exact retS rfl
  · by_cases h2 : a = 2
    · subst h2
      go_enter Try.func34, Try.ntmps34
      go_wp2
      go_ret
      exact retS rfl
    · have e0 : (a == 0) = false := by simpa using h0
      have e2 : (a == 2) = false := by simpa using h2
      go_enter Try.func34, Try.ntmps34
      go_wp2
      go_ret
      exact retS (by simp [tru, h0, h2])

set_option maxHeartbeats 400000 in
theorem valid_any (a b : Int) (w : World) : Calls Try.prog 11 #[.agg #[.int .i64 a, .int .i64 b]] w (RetB (.bool (vld a b)) w) := by
  go_enter Try.func11, Try.ntmps11
  go_wp2
  all_goals (go_ret; refine retB (vbool ?_) (by repeat (first | exact Below.refl _ _ | assumption | refine Below.drew ?_ | refine below_drewN ?_ _ | refine Below.alloc ?_ (by first | omega | (simp; done) | (simp; omega)) _ | refine Below.setCell ?_ (by first | omega | (simp; done) | (simp; omega)) _ | refine Below.trans ?_ (Below.mono (by assumption) (by first | omega | (simp; done) | (simp; omega))))); unfold vld; first | (simp; done) | (simp; omega) | (rw [Bool.eq_iff_iff]; simp; omega))

set_option maxHeartbeats 400000 in
theorem over_any (a b n : Int) (w : World) : Calls Try.prog 12 #[.agg #[.int .i64 a, .int .i64 b], .int .i64 n] w (RetB (.int .i64 (over a b n)) w) := by
  by_cases hv : vld a b = true
  · have HV := Lib.hid hv
    clear hv
    go_enter Try.func12, Try.ntmps12
    go_wp2_with (go_at_call 11; refine (valid_any _ _ _).mono ?_; rintro e w1 ⟨rfl, hb1⟩; rw [HV.out]; obtain ⟨hc1, hf1⟩ := bcell hb1)
    all_goals (go_ret; refine retB (vint ?_) (by repeat (first | exact Below.refl _ _ | assumption | refine Below.drew ?_ | refine below_drewN ?_ _ | refine Below.alloc ?_ (by first | omega | (simp; done) | (simp; omega)) _ | refine Below.setCell ?_ (by first | omega | (simp; done) | (simp; omega)) _ | refine Below.trans ?_ (Below.mono (by assumption) (by first | omega | (simp; done) | (simp; omega))))); unfold over; rw [HV.out]; simp; omega)
  · have HV := Lib.hid (by simpa using hv : vld a b = false)
    clear hv
    go_enter Try.func12, Try.ntmps12
    go_wp2_with (go_at_call 11; refine (valid_any _ _ _).mono ?_; rintro e w1 ⟨rfl, hb1⟩; rw [HV.out]; obtain ⟨hc1, hf1⟩ := bcell hb1)
    all_goals (go_ret; refine retB (vint ?_) (by repeat (first | exact Below.refl _ _ | assumption | refine Below.drew ?_ | refine below_drewN ?_ _ | refine Below.alloc ?_ (by first | omega | (simp; done) | (simp; omega)) _ | refine Below.setCell ?_ (by first | omega | (simp; done) | (simp; omega)) _ | refine Below.trans ?_ (Below.mono (by assumption) (by first | omega | (simp; done) | (simp; omega))))); unfold over; rw [HV.out]; simp)

set_option maxHeartbeats 400000 in
theorem and_any (a b : Int) (w : World) : Calls Try.prog 13 #[.int .i64 a, .int .i64 b] w (RetS (.int .i64 (min (tru a) (tru b))) w) := by
  go_enter Try.func13, Try.ntmps13
  go_wp2_with (go_at_call 34; refine Calls.mono (truth_any _ _) ?_; rintro e w1 ⟨rfl, rfl⟩)
  all_goals (go_ret; refine retS (vint ?_); omega)

set_option maxHeartbeats 400000 in
theorem or_any (a b : Int) (w : World) : Calls Try.prog 14 #[.int .i64 a, .int .i64 b] w (RetS (.int .i64 (max (tru a) (tru b))) w) := by
  go_enter Try.func14, Try.ntmps14
  go_wp2_with (go_at_call 34; refine Calls.mono (truth_any _ _) ?_; rintro e w1 ⟨rfl, rfl⟩)
  all_goals (go_ret; refine retS (vint ?_); omega)

theorem tru_range (a : Int) : 0 ≤ tru a ∧ tru a ≤ 2 := by unfold tru; split <;> (try split) <;> omega

set_option maxHeartbeats 400000 in
theorem not_any (a : Int) (w : World) : Calls Try.prog 15 #[.int .i64 a] w (RetS (.int .i64 (2 - tru a)) w) := by
  obtain ⟨h0, h2⟩ := tru_range a
  go_enter Try.func15, Try.ntmps15
  go_wp2_with (go_at_call 34; refine Calls.mono (truth_any _ _) ?_; rintro e w1 ⟨rfl, rfl⟩)
  all_goals (go_ret; refine retS (vint ?_); omega)

set_option maxHeartbeats 400000 in
theorem in_any (a b n : Int) (w : World) : Calls Try.prog 16 #[.agg #[.int .i64 a, .int .i64 b], .int .i64 n] w (RetB (.bool (decide (a ≤ n ∧ n ≤ b))) w) := by
  go_enter Try.func16, Try.ntmps16
  go_wp2
  all_goals (go_ret; refine retB (vbool ?_) (by repeat (first | exact Below.refl _ _ | assumption | refine Below.drew ?_ | refine below_drewN ?_ _ | refine Below.alloc ?_ (by first | omega | (simp; done) | (simp; omega)) _ | refine Below.setCell ?_ (by first | omega | (simp; done) | (simp; omega)) _ | refine Below.trans ?_ (Below.mono (by assumption) (by first | omega | (simp; done) | (simp; omega))))); first | (simp; done) | (simp; omega) | (rw [Bool.eq_iff_iff]; simp; omega))

set_option maxHeartbeats 400000 in
theorem part_any (a b c d : Int) (w : World) : Calls Try.prog 25 #[.agg #[.int .i64 a, .int .i64 b], .agg #[.int .i64 c, .int .i64 d]] w (RetB (.bool (decide (c ≤ a ∧ b ≤ d))) w) := by
  go_enter Try.func25, Try.ntmps25
  go_wp2
  all_goals (go_ret; refine retB (vbool ?_) (by repeat (first | exact Below.refl _ _ | assumption | refine Below.drew ?_ | refine below_drewN ?_ _ | refine Below.alloc ?_ (by first | omega | (simp; done) | (simp; omega)) _ | refine Below.setCell ?_ (by first | omega | (simp; done) | (simp; omega)) _ | refine Below.trans ?_ (Below.mono (by assumption) (by first | omega | (simp; done) | (simp; omega))))); first | (simp; done) | (simp; omega) | (rw [Bool.eq_iff_iff]; simp; omega))

set_option maxHeartbeats 400000 in
theorem rvalid_any (a b : Int) (w : World) : Calls Try.prog 17 #[.agg #[.int .i64 a, .int .i64 b]] w (RetB (.bool (vld a b)) w) := by
  go_enter Try.func17, Try.ntmps17
  go_wp2
  all_goals (go_ret; refine retB (vbool ?_) (by repeat (first | exact Below.refl _ _ | assumption | refine Below.drew ?_ | refine below_drewN ?_ _ | refine Below.alloc ?_ (by first | omega | (simp; done) | (simp; omega)) _ | refine Below.setCell ?_ (by first | omega | (simp; done) | (simp; omega)) _ | refine Below.trans ?_ (Below.mono (by assumption) (by first | omega | (simp; done) | (simp; omega))))); unfold vld; first | (simp; done) | (simp; omega) | (rw [Bool.eq_iff_iff]; simp; omega))

set_option maxHeartbeats 400000 in
theorem of_any (a b : Int) (w : World) : Calls Try.prog 24 #[.int .i64 a, .int .i64 b] w (RetB (.agg #[.int .i64 a, .int .i64 b]) w) := by
  go_enter Try.func24, Try.ntmps24
  go_wp2
  exact bodyPost_ret (v := .agg #[.int .i64 a, .int .i64 b]) (by simp [results, go_sem]) rfl (retB rfl (by repeat (first | exact Below.refl _ _ | assumption | refine Below.drew ?_ | refine below_drewN ?_ _ | refine Below.alloc ?_ (by first | omega | (simp; done) | (simp; omega)) _ | refine Below.setCell ?_ (by first | omega | (simp; done) | (simp; omega)) _ | refine Below.trans ?_ (Below.mono (by assumption) (by first | omega | (simp; done) | (simp; omega))))))

set_option maxHeartbeats 400000 in
theorem plus_any (a b : Int) (w : World) (h1 : -2000000000000 ≤ a) (h2 : a ≤ 2000000000000) (h3 : -2000000000000 ≤ b) (h4 : b ≤ 2000000000000) : Calls Try.prog 36 #[.int .i64 a, .int .i64 b] w (RetS (.int .i64 (sat (a + b))) w) := by
  go_enter Try.func36, Try.ntmps36
  go_wp2_with (go_at_call 41; refine Calls.mono (saturated_any _ _) ?_; rintro e w1 ⟨rfl, rfl⟩)
  go_ret
  exact retS rfl

set_option maxHeartbeats 400000 in
theorem minus_any (a b : Int) (w : World) (h1 : -2000000000000 ≤ a) (h2 : a ≤ 2000000000000) (h3 : -2000000000000 ≤ b) (h4 : b ≤ 2000000000000) : Calls Try.prog 37 #[.int .i64 a, .int .i64 b] w (RetS (.int .i64 (sat (a - b))) w) := by
  go_enter Try.func37, Try.ntmps37
  go_wp2_with (go_at_call 41; refine Calls.mono (saturated_any _ _) ?_; rintro e w1 ⟨rfl, rfl⟩)
  go_ret
  exact retS rfl

end Go.Proofs.Ytegpdggadjjmkaa
