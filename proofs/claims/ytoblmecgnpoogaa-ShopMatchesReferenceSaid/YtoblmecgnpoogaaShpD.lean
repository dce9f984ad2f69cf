
/- Package shop: what is valid. -/
import Derived.Test.YtoblmecgnpoogaaShpC
namespace Go.Proofs.Ytoblmecgnpoogaa
open Go.RowKit

def odd60 (n : Int) : Bool := decide (n < 0) || decide (60 < n)
def oddH (n : Int) : Bool := decide (n < 0) || decide (9999999 < n)
noncomputable def vB (l : List Tk) : Bool := @decide (VT l) (Classical.propDecidable _)
theorem vB_iff (l : List Tk) : vB l = true ↔ VT l := by
  unfold vB
  exact @decide_eq_true_iff (VT l) (Classical.propDecidable _)
/-- tasks and a shop that are valid -/
def VS (s : Sh) : Prop := s.staff.length ≤ 8 ∧ (∀ n ∈ s.staff, 0 ≤ n ∧ n ≤ 60) ∧ 0 ≤ s.bays ∧ s.bays ≤ 60
theorem odd60_any {l : List Int} : l.any odd60 = false ↔ ∀ n ∈ l, 0 ≤ n ∧ n ≤ 60 := by
  rw [List.any_eq_false]
  constructor
  · intro h n hn
    have := h n hn
    unfold odd60 at this
    simp at this
    omega
  · intro h n hn
    have := h n hn
    unfold odd60
    simp
    omega
theorem oddH_any {l : List Int} : l.any oddH = false ↔ ∀ n ∈ l, 0 ≤ n ∧ n ≤ 9999999 := by
  rw [List.any_eq_false]
  constructor
  · intro h n hn
    have := h n hn
    unfold oddH at this
    simp at this
    omega
  · intro h n hn
    have := h n hn
    unfold oddH
    simp
    omega
theorem valid1_any (n : Int) (w : World) : Calls Try.prog 43 #[.int .i64 n] w (RetS (.bool (odd60 n)) w) := by
  go_enter Try.func43, Try.ntmps43
  go_wp2
  all_goals (go_ret; refine retS (vbool ?_); unfold odd60; first | (simp; done) | (simp; omega) | (rw [Bool.eq_iff_iff]; simp; omega))
theorem hours1_any (n : Int) (w : World) : Calls Try.prog 52 #[.int .i64 n] w (RetS (.bool (oddH n)) w) := by
  go_enter Try.func52, Try.ntmps52
  go_wp2
  all_goals (go_ret; refine retS (vbool ?_); unfold oddH; first | (simp; done) | (simp; omega) | (rw [Bool.eq_iff_iff]; simp; omega))
noncomputable def vsB (l : List Tk) (s : Sh) : Bool := vB l && (decide (s.staff.length ≤ 8) && (!(s.staff.any odd60) && !(odd60 s.bays)))
theorem vsB_iff (l : List Tk) (s : Sh) : vsB l s = true ↔ VT l ∧ VS s := by
  unfold vsB VS
  rw [Bool.and_eq_true, vB_iff, Bool.and_eq_true, decide_eq_true_iff, Bool.and_eq_true, Bool.not_eq_true', Bool.not_eq_true', odd60_any]
  unfold odd60
  simp only [Bool.or_eq_false_iff, decide_eq_false_iff_not]
  constructor
  · rintro ⟨h1, h2, h3, h4, h5⟩
    exact ⟨h1, h2, h3, by omega, by omega⟩
  · rintro ⟨h1, h2, h3, h4, h5⟩
    exact ⟨h1, h2, h3, by omega, by omega⟩
/-- hours at which tasks may begin -/
def HO (l : List Tk) (st : List Int) : Prop := st.length = l.length ∧ ∀ n ∈ st, 0 ≤ n ∧ n ≤ 9999999
noncomputable def hoB (l : List Tk) (st : List Int) : Bool := decide (st.length = l.length) && !(st.any oddH)
theorem hoB_iff (l : List Tk) (st : List Int) : hoB l st = true ↔ HO l st := by
  unfold hoB HO
  rw [Bool.and_eq_true, decide_eq_true_iff, Bool.not_eq_true', oddH_any]
set_option maxRecDepth 100000 in
set_option maxHeartbeats 4000000 in
theorem hoursOf_any (l : List Tk) (a : Option Addr) (cap : Nat) (st : List Int) (ia : Option Addr) (ic : Nat) (w : World) (hI : Ints w ia st) (hs : st.length < 9223372036854775807) :
    Calls Try.prog 39 #[.slice a l.length cap, .slice ia st.length ic] w (RetB (.bool (hoB l st)) w) := by
  obtain ⟨n, hn⟩ : ∃ n, n = l.length := ⟨_, rfl⟩
  obtain ⟨m, hm⟩ : ∃ n, n = st.length := ⟨_, rfl⟩
  obtain ⟨k, hk⟩ : ∃ k, k = st.any oddH := ⟨_, rfl⟩
  obtain ⟨r, hr⟩ : ∃ r, r = hoB l st := ⟨_, rfl⟩
  have hre : r = (decide (m = n) && !k) := by rw [hr, hk, hm, hn]; rfl
  have HK := Lib.hid (show Calls Try.prog 29 #[.slice ia m ic, .func (.func 52) #[] #[]] w (RetS (.bool k) w) from by
    rw [hm, hk]
    exact contains_hours st oddH ia ic w hI hs (fun r _ => hours1_any _ w))
  have HRE := Lib.hid hre
  rw [← hr, ← hn, ← hm]
  clear hk hr hre hn hm hI
  by_cases h : m = n
  · subst h
    have e0 : ((m : Int) == (m : Int)) = true := by simp
    have HE := Lib.hid (show r = !k from by rw [HRE.out]; simp)
    cases k <;> (
      go_enter Try.func39, Try.ntmps39
      go_wp2_with fail
      refine Calls.mono HK.out ?_
      rintro e w2 ⟨rfl, rfl⟩
      go_wp2_with fail
      go_ret
      exact retB (vbool HE.out.symm) (Below.refl _ _))
  · have e0 : (m == n) = false := by simpa using h
    have e0' : ((m : Int) == (n : Int)) = false := by simp; omega
    have HE := Lib.hid (show r = false from by rw [HRE.out]; simp [h])
    clear h
    go_enter Try.func39, Try.ntmps39
    go_wp2_with fail
    go_ret
    exact retB (vbool HE.out.symm) (Below.refl _ _)
set_option maxRecDepth 100000 in
set_option maxHeartbeats 4000000 in
theorem svalid_any (l : List Tk) (a : Option Addr) (cap : Nat) (s : Sh) (sa : Option Addr) (sc : Nat) (w : World) (hT : Tasks w a l) (hl : l.length < 9223372036854775808) (hS : l.length ≤ 40 → ∀ i, i < l.length → (tg l i).after.length < 9223372036854775808) (hI : Ints w sa s.staff) (hs : s.staff.length < 9223372036854775807) :
    Calls Try.prog 23 #[.slice a l.length cap, shV s sa sc] w (RetB (.bool (vsB l s)) w) := by
  obtain ⟨v, hv⟩ : ∃ v, v = vB l := ⟨_, rfl⟩
  obtain ⟨k, hk⟩ : ∃ k, k = s.staff.any odd60 := ⟨_, rfl⟩
  obtain ⟨b, hb⟩ : ∃ b, b = odd60 s.bays := ⟨_, rfl⟩
  obtain ⟨r, hr⟩ : ∃ r, r = vsB l s := ⟨_, rfl⟩
  have hre : r = (v && (decide (s.staff.length ≤ 8) && (!k && !b))) := by rw [hr, hv, hk, hb]; rfl
  obtain ⟨n, hn⟩ : ∃ n, n = l.length := ⟨_, rfl⟩
  obtain ⟨m, hm⟩ : ∃ n, n = s.staff.length := ⟨_, rfl⟩
  obtain ⟨bs, hbs⟩ : ∃ n, n = s.bays := ⟨_, rfl⟩
  have HV := Lib.hid (show ∀ wy, Below w.heap.size w wy → Calls Try.prog 38 #[.slice a n cap] wy (RetB (.bool v) wy) from fun wy hy => by
    rw [hn]
    exact valid_any l a cap v wy (hT.later hy) hl hS (by rw [hv]; exact vB_iff l))
  have HK := Lib.hid (show ∀ wy, Below w.heap.size w wy → Calls Try.prog 29 #[.slice sa m sc, .func (.func 43) #[] #[]] wy (RetS (.bool k) wy) from fun wy hy => by
    rw [hm, hk]
    exact contains_valid s.staff odd60 sa sc wy (hI.later hy) hs (fun r _ => valid1_any _ wy))
  have HB := Lib.hid (show ∀ wy, Calls Try.prog 43 #[.int .i64 bs] wy (RetS (.bool b) wy) from fun wy => by
    rw [hb, hbs]
    exact valid1_any _ wy)
  have HRE := Lib.hid hre
  unfold shV
  rw [← hr, ← hn, ← hm, ← hbs]
  have HM := Lib.hid hm
  clear hv hk hb hr hre hn hm hbs hT hS hI
  cases v
  · have HE := Lib.hid (show r = false from by rw [HRE.out]; rfl)
    go_enter Try.func23, Try.ntmps23
    go_wp2_with fail
    refine Calls.mono (HV.out _ ((Below.refl _ _).alloc (Nat.le_refl _) _)) ?_
    rintro e w1 ⟨rfl, hb1⟩
    have HB1 := Lib.hid (((Below.refl w.heap.size w).alloc (Nat.le_refl _) _).trans (hb1.mono (by simp)))
    clear hb1
    go_wp2_with fail
    go_ret
    exact retB (vbool HE.out.symm) HB1.out
  · by_cases h8 : m ≤ 8
    · have d1 : decide (m ≤ 8) = true := decide_eq_true h8
      have d1' : decide ((m : Int) ≤ 8) = true := decide_eq_true (by omega)
      have HE := Lib.hid (show r = (!k && !b) from by rw [HRE.out, ← HM.out, d1]; rfl)
      clear h8
      cases k <;> cases b <;> (
        go_enter Try.func23, Try.ntmps23
        go_wp2_with fail
        refine Calls.mono (HV.out _ ((Below.refl _ _).alloc (Nat.le_refl _) _)) ?_
        rintro e w1 ⟨rfl, hb1⟩
        have hbb := (((Below.refl w.heap.size w).alloc (Nat.le_refl _) (.cells #[.slice sa m sc, .int .i64 bs] 25)).trans (hb1.mono (by simp)))
        have HB1 := Lib.hid hbb
        have c0 : w1.cell? ⟨w.heap.size, 0, none⟩ = some (.slice sa m sc) := cell_later hb1 (by simp [go_sem])
        have c1 : w1.cell? ⟨w.heap.size, 1, none⟩ = some (.int .i64 bs) := cell_later hb1 (by simp [go_sem])
        clear hb1 hbb
        go_wp2_with fail
        refine Calls.mono (HK.out _ HB1.out) ?_
        rintro e w2 ⟨rfl, rfl⟩
        go_wp2_with fail
        first
          | (go_ret; exact retB (vbool HE.out.symm) HB1.out)
          | (refine Calls.mono (HB.out _) ?_
             rintro e w3 ⟨rfl, rfl⟩
             go_wp2_with fail
             go_ret
             exact retB (vbool HE.out.symm) HB1.out))
    · have d1 : decide (m ≤ 8) = false := decide_eq_false h8
      have d1' : decide ((m : Int) ≤ 8) = false := decide_eq_false (by omega)
      have HE := Lib.hid (show r = false from by rw [HRE.out, ← HM.out, d1]; simp)
      clear h8
      go_enter Try.func23, Try.ntmps23
      go_wp2_with fail
      refine Calls.mono (HV.out _ ((Below.refl _ _).alloc (Nat.le_refl _) _)) ?_
      rintro e w1 ⟨rfl, hb1⟩
      have hbb := (((Below.refl w.heap.size w).alloc (Nat.le_refl _) (.cells #[.slice sa m sc, .int .i64 bs] 25)).trans (hb1.mono (by simp)))
      have HB1 := Lib.hid hbb
      have c0 : w1.cell? ⟨w.heap.size, 0, none⟩ = some (.slice sa m sc) := cell_later hb1 (by simp [go_sem])
      clear hb1 hbb
      go_wp2_with fail
      go_ret
      exact retB (vbool HE.out.symm) HB1.out
end Go.Proofs.Ytoblmecgnpoogaa

