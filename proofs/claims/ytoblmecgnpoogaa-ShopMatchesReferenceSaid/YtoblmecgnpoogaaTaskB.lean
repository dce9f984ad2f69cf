
/- Contracts of package task: waits. -/
import Derived.Test.YtoblmecgnpoogaaTaskA
namespace Go.Proofs.Ytoblmecgnpoogaa
open Go.RowKit

set_option maxHeartbeats 1000000 in
theorem waits1_any (d : List Bool) (m B : Nat) (da : Option Addr) (dc : Nat) (w : World) (hD : Bools w da d) (hm : m < d.length) (hd : d.length ≤ 1000) (hB : w.cell? ⟨B, 0, none⟩ = some (.slice da d.length dc)) :
    Calls Try.prog 53 #[.int .i64 m, .pointer (some ⟨B, 0, none⟩)] w (RetS (.bool (!bg d m)) w) := by
  obtain ⟨db, doff, rfl, fd⟩ := hD.fam (by omega)
  go_enter Try.func53, Try.ntmps53
  go_wp2
  go_ret
  exact retS rfl

/-- where the first one stands that is not done, or -1 -/
def firstOpen (d : List Bool) (l : List Int) : Int := match l.findIdx? (fun k => !bg d k.toNat) with | some i => i | none => -1
theorem firstOpen_at {d : List Bool} {l : List Int} {q : Nat} (hq : q < l.length) (h : ∀ r, r < q → bg d (ig l r).toNat = true) (h' : bg d (ig l q).toNat = false) : firstOpen d l = q := by
  have e : l.findIdx? (fun k => !bg d k.toNat) = some q := by
    rw [List.findIdx?_eq_some_iff_getElem]
    refine ⟨hq, by rw [ig_lt hq] at h'; simp [h'], fun j hj => ?_⟩
    have := h j hj
    rw [ig_lt (by omega)] at this
    simp [this]
  unfold firstOpen
  rw [e]
theorem firstOpen_none {d : List Bool} {l : List Int} (h : ∀ r, r < l.length → bg d (ig l r).toNat = true) : firstOpen d l = -1 := by
  have e : l.findIdx? (fun k => !bg d k.toNat) = none := by
    rw [List.findIdx?_eq_none_iff]
    intro x hx
    obtain ⟨i, hi, rfl⟩ := List.getElem_of_mem hx
    have := h i hi
    rw [ig_lt hi] at this
    simp [this]
  unfold firstOpen
  rw [e]
theorem firstOpen_iff (d : List Bool) (l : List Int) : decide (firstOpen d l ≥ 0) = !allDone d l := by
  by_cases h : ∀ r, r < l.length → bg d (ig l r).toNat = true
  · rw [firstOpen_none h, allDone_true h]; rfl
  · have : ∃ r, r < l.length ∧ bg d (ig l r).toNat = false := by
      refine Classical.byContradiction fun hn => h fun r hr => ?_
      cases hb : bg d (ig l r).toNat
      · exact absurd ⟨r, hr, hb⟩ hn
      · rfl
    obtain ⟨r, hr, hb⟩ := this
    rw [allDone_false hr hb]
    unfold firstOpen
    cases e : l.findIdx? (fun k => !bg d k.toNat) with
    | some i => simp
    | none =>
      rw [List.findIdx?_eq_none_iff] at e
      have := e (ig l r) (ig_mem hr)
      rw [hb] at this
      cases this

set_option maxHeartbeats 1000000 in
theorem indexFunc_any (l : List Int) (d : List Bool) (B : Nat) (a da : Option Addr) (cap dc : Nat) (w : World) (hL : Ints w a l) (hD : Bools w da d) (hl : l.length ≤ 1000) (hd : d.length ≤ 1000) (hB : w.cell? ⟨B, 0, none⟩ = some (.slice da d.length dc))
    (hin : ∀ r, r < l.length → 0 ≤ ig l r ∧ ig l r < d.length) :
    Calls Try.prog 46 #[.slice a l.length cap, .func (.func 53) #[] #[.pointer (some ⟨B, 0, none⟩)]] w (RetS (.int .i64 (firstOpen d l)) w) := by
  have HB := Lib.hid hB
  clear hB
  go_enter Try.func46, Try.ntmps46
  go_wp2
  go_loopg [8] (l.length + 1) (fun k v8 wr => ∃ q : Nat, q ≤ l.length ∧ k + q = l.length + 1 ∧ v8 = .int .i64 q ∧ w = wr ∧ ∀ r, r < q → bg d (ig l r).toNat = true)
  case atStart => exact ⟨0, by omega, by omega, rfl, rfl, fun r hr => absurd hr (by omega)⟩
  case round =>
    obtain ⟨q, hq, hk, rfl, rfl, hall⟩ := hrel
    have HA := Lib.hid hall
    clear hall
    by_cases hlt : q < l.length
    · obtain ⟨ab, aoff, rfl, fa⟩ := hL.fam (by omega)
      obtain ⟨g1, g2⟩ := hin q hlt
      obtain ⟨m, hm⟩ : ∃ m : Nat, ig l q = (m : Int) := ⟨(ig l q).toNat, by omega⟩
      have hml : m < d.length := by omega
      have hcq : w.cell? ⟨ab, aoff + q, none⟩ = some (.int .i64 (m : Int)) := by rw [fa q hlt, hm]
      clear fa
      have HM := Lib.hid hm
      clear hm
      cases hdm : bg d m
      · go_wp2_with fail
        refine Calls.mono (waits1_any d m B da dc _ hD hml hd HB.out) ?_
        rintro e w1 ⟨rfl, rfl⟩
        rw [hdm]
        go_wp2
        go_ret
        exact retS (vint (firstOpen_at hlt HA.out (by rw [HM.out]; simpa using hdm)).symm)
      · go_wp2_with fail
        refine Calls.mono (waits1_any d m B da dc _ hD hml hd HB.out) ?_
        rintro e w1 ⟨rfl, rfl⟩
        rw [hdm]
        go_wp2
        go_roundg (gk - 1)
        case measure => omega
        case rel => exact ⟨q + 1, by omega, by omega, by go_num, rfl, fun r hr => by
          rcases Nat.lt_succ_iff_lt_or_eq.1 hr with h | h
          · exact HA.out r h
          · subst h; rw [HM.out]; simpa using hdm⟩
    · go_wp2
      go_ret
      exact retS (vint (firstOpen_none fun r hr => HA.out r (by omega)).symm)

set_option maxHeartbeats 1000000 in
theorem containsFunc_any (l : List Int) (d : List Bool) (B : Nat) (a da : Option Addr) (cap dc : Nat) (w : World) (hL : Ints w a l) (hD : Bools w da d) (hl : l.length ≤ 1000) (hd : d.length ≤ 1000) (hB : w.cell? ⟨B, 0, none⟩ = some (.slice da d.length dc))
    (hin : ∀ r, r < l.length → 0 ≤ ig l r ∧ ig l r < d.length) :
    Calls Try.prog 29 #[.slice a l.length cap, .func (.func 53) #[] #[.pointer (some ⟨B, 0, none⟩)]] w (RetS (.bool (!allDone d l)) w) := by
  have HB := Lib.hid hB
  clear hB
  go_enter Try.func29, Try.ntmps29
  go_wp2_with fail
  refine Calls.mono (indexFunc_any l d B a da cap dc _ hL hD hl hd HB.out hin) ?_
  rintro e w1 ⟨rfl, rfl⟩
  go_wp2
  go_ret
  exact retS (vbool (by rw [← firstOpen_iff]))

set_option maxHeartbeats 1000000 in
theorem waits_any (t : Tk) (d : List Bool) (a da : Option Addr) (cap dc : Nat) (w : World) (hL : Ints w a t.after) (hD : Bools w da d) (hl : t.after.length ≤ 1000) (hd : d.length ≤ 1000)
    (hin : ∀ r, r < t.after.length → 0 ≤ ig t.after r ∧ ig t.after r < d.length) :
    Calls Try.prog 44 #[.agg #[.int .i64 t.hours, .int .i64 t.skill, .bool t.bay, .slice a t.after.length cap], .slice da d.length dc] w (RetB (.bool (!allDone d t.after)) w) := by
  go_enter Try.func44, Try.ntmps44
  go_wp2_with fail
  refine Calls.mono (containsFunc_any t.after d _ a da cap dc _ (hL.later (by repeat (first | exact Below.refl _ _ | assumption | refine Below.drew ?_ | refine below_drewN ?_ _ | refine Below.alloc ?_ (by first | omega | (simp; done) | (simp; omega)) _ | refine Below.setCell ?_ (by first | omega | (simp; done) | (simp; omega)) _ | refine Below.trans ?_ (Below.mono (by assumption) (by first | omega | (simp; done) | (simp; omega)))))) (hD.later (by repeat (first | exact Below.refl _ _ | assumption | refine Below.drew ?_ | refine below_drewN ?_ _ | refine Below.alloc ?_ (by first | omega | (simp; done) | (simp; omega)) _ | refine Below.setCell ?_ (by first | omega | (simp; done) | (simp; omega)) _ | refine Below.trans ?_ (Below.mono (by assumption) (by first | omega | (simp; done) | (simp; omega)))))) hl hd (by simp [go_sem]) hin) ?_
  rintro e w1 ⟨rfl, rfl⟩
  go_wp2
  go_ret
  exact retB rfl (by repeat (first | exact Below.refl _ _ | assumption | refine Below.drew ?_ | refine below_drewN ?_ _ | refine Below.alloc ?_ (by first | omega | (simp; done) | (simp; omega)) _ | refine Below.setCell ?_ (by first | omega | (simp; done) | (simp; omega)) _ | refine Below.trans ?_ (Below.mono (by assumption) (by first | omega | (simp; done) | (simp; omega)))))
end Go.Proofs.Ytoblmecgnpoogaa

