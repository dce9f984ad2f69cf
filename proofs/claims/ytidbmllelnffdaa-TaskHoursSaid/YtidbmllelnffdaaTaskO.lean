
/- Contracts of package task: lists that are not valid; the reference's Closed. -/
import Derived.Test.YtidbmllelnffdaaTaskL
namespace Go.Proofs.Ytidbmllelnffdaa
open Go.RowKit

/-- returned booleans and an error number -/
def RetBE (l : List Bool) (n : Int) (w : World) (e : Ending) (w' : World) : Prop := ∃ a cap, e = .returned (.tuple #[.slice a l.length cap, .int .i64 n]) ∧ Bools w' a l ∧ Below w.heap.size w w'

set_option maxRecDepth 100000 in
set_option maxHeartbeats 2000000 in
theorem critical_no (l : List Tk) (a : Option Addr) (cap : Nat) (w : World) (hT : Tasks w a l) (hl : l.length < 9223372036854775808) (hS : l.length ≤ 40 → ∀ i, i < l.length → (tg l i).after.length < 9223372036854775808) (hv : ¬ VT l) :
    (Calls Try.prog 13 #[.slice a l.length cap] w (RetNE 0 1 w)) ∧ (Calls Try.prog 14 #[.slice a l.length cap] w (RetNE 0 1 w)) := by
  have HV := Lib.hid (show false = true ↔ VT l by simp [hv])
  have HS := Lib.hid hS
  have hro := (order_no l a cap w hT hl hS hv).2
  clear hS hv
  constructor
  · clear hro
    go_enter Try.func13, Try.ntmps13
    go_wp2_with fail
    refine Calls.mono (valid_any l a cap false _ (hT.later (by repeat (first | exact Below.refl _ _ | assumption | refine Below.drew ?_ | refine below_drewN ?_ _ | refine Below.alloc ?_ (by first | omega | (simp; done) | (simp; omega)) _ | refine Below.setCell ?_ (by first | omega | (simp; done) | (simp; omega)) _ | refine Below.trans ?_ (Below.mono (by assumption) (by first | omega | (simp; done) | (simp; omega)))))) hl HS.out HV.out) ?_
    rintro e w1 ⟨rfl, hb1⟩; have hs1 := hb1.size; (try simp at hs1)
    go_wp2_with fail
    go_ret2
    exact ⟨rfl, (by repeat (first | exact Below.refl _ _ | assumption | refine Below.drew ?_ | refine below_drewN ?_ _ | refine Below.alloc ?_ (by first | omega | (simp; done) | (simp; omega)) _ | refine Below.setCell ?_ (by first | omega | (simp; done) | (simp; omega)) _ | refine Below.trans ?_ (Below.mono (by assumption) (by first | omega | (simp; done) | (simp; omega)))))⟩
  · go_enter Try.func14, Try.ntmps14
    go_wp2_with fail
    refine Calls.mono hro ?_
    rintro e w1 ⟨oa, oc, rfl, hI, hb1⟩
    go_wp2_with fail
    go_ret2
    exact ⟨rfl, (by repeat (first | exact Below.refl _ _ | assumption | refine Below.drew ?_ | refine below_drewN ?_ _ | refine Below.alloc ?_ (by first | omega | (simp; done) | (simp; omega)) _ | refine Below.setCell ?_ (by first | omega | (simp; done) | (simp; omega)) _ | refine Below.trans ?_ (Below.mono (by assumption) (by first | omega | (simp; done) | (simp; omega)))))⟩

set_option maxRecDepth 100000 in
set_option maxHeartbeats 4000000 in
theorem rclosed_any (l : List Tk) (d : List Bool) (n : Nat) (a da : Option Addr) (cap dc : Nat) (w : World) (hT : Tasks w a l) (hD : Bools w da d) (hv : VT l) (hd : d.length = l.length) (hn : n = l.length) :
    Calls Try.prog 29 #[.slice a l.length cap, .slice da n dc] w (RetS (.bool (clo l d)) w) := by
  subst hn
  have HV := Lib.hid hv
  have HDL := Lib.hid hd
  have h40 := hv.1
  have HCL := Lib.hid (clo_iff (l := l) (d := d))
  generalize clo l d = c at *
  clear hv hd
  go_enter Try.func29, Try.ntmps29
  go_wp2_with fail
  go_loopg [5] (l.length + 1) (fun k v5 wr => ∃ i : Nat, i ≤ l.length ∧ k + i = l.length + 1 ∧ v5 = .int .i64 i ∧ w = wr ∧ ∀ j, j < i → bg d j = true → allDone d (tg l j).after = true)
  case atStart => exact ⟨0, by omega, by omega, rfl, rfl, fun j hj => absurd hj (by omega)⟩
  case round =>
    obtain ⟨ko, rfl⟩ : ∃ ko : Nat, ko = gk := ⟨_, rfl⟩
    obtain ⟨i, hil, hk, rfl, rfl, hall⟩ := hrel
    have HA := Lib.hid hall
    clear hall
    by_cases hlt : i < l.length
    · obtain ⟨b, off, aa, ac, rfl, c0, c1, c2, c3, hI⟩ := hT i hlt
      obtain ⟨db, doff, rfl, fd⟩ := hD.fam (by have := HDL.out; omega)
      have hdi := fd i (by have := HDL.out; omega)
      have hai := fun r (hr : r < (tg l i).after.length) => good_in ((HV.out.2 i hlt).2.2.2.2) hr
      have hal := after_len HV.out hlt
      obtain ⟨t, ht⟩ : ∃ t, tg l i = t := ⟨_, rfl⟩
      rw [ht] at c0 c1 c2 c3 hI hai hal
      have HT := Lib.hid ht
      have HAI := Lib.hid hai
      have HFD := Lib.hid fd
      clear ht hai fd
      go_wp2_with fail
      go_loopg [6] (t.after.length + 1) (fun k v6 wr => ∃ q : Nat, q ≤ t.after.length ∧ k + q = t.after.length + 1 ∧ v6 = .int .i64 q ∧ w = wr ∧ (bg d i = true → ∀ r, r < q → bg d (ig t.after r).toNat = true))
      case atStart => exact ⟨0, by omega, by omega, rfl, rfl, fun _ r hr => absurd hr (by omega)⟩
      case round =>
        obtain ⟨q, hq, hkq, rfl, rfl, hin⟩ := hrel
        have HQ := Lib.hid hin
        clear hin
        by_cases hlq : q < t.after.length
        · obtain ⟨ab, aoff, rfl, fa⟩ := hI.fam (by omega)
          obtain ⟨g1, g2⟩ := HAI.out q hlq
          obtain ⟨m, hm⟩ : ∃ m : Nat, ig t.after q = (m : Int) := ⟨(ig t.after q).toNat, by omega⟩
          have hml : m < l.length := by omega
          have hcq : w.cell? ⟨ab, aoff + q, none⟩ = some (.int .i64 (m : Int)) := by rw [fa q hlq, hm]
          have hdm := HFD.out m (by have := HDL.out; omega)
          have HM := Lib.hid hm
          clear fa hm
          cases hbi : bg d i
          · rw [hbi] at hdi
            have HBI := Lib.hid hbi
            clear hbi
            go_wp2
            go_roundg (gk - 1)
            case measure => omega
            case rel => exact ⟨q + 1, by omega, by omega, by go_num, rfl, fun h => absurd h (by simpa using HBI.out)⟩
          · rw [hbi] at hdi
            have HBI := Lib.hid hbi
            clear hbi
            cases hbm : bg d m
            · rw [hbm] at hdm
              have HBM := Lib.hid hbm
              clear hbm
              go_wp2
              go_ret
              refine retS (vbool ?_)
              have h1 : ¬ c = true := fun h => by
                have h2 := HCL.out.1 h i hlt (by simpa using HBI.out)
                rw [HT.out] at h2
                have h3 := allDone_iff.1 h2 q hlq
                rw [HM.out, Int.toNat_natCast] at h3
                have h4 := HBM.out
                simp [h3] at h4
              simpa using h1
            · rw [hbm] at hdm
              have HBM := Lib.hid hbm
              clear hbm
              go_wp2
              go_roundg (gk - 1)
              case measure => omega
              case rel => exact ⟨q + 1, by omega, by omega, by go_num, rfl, fun h r hr => by
                rcases Nat.lt_succ_iff_lt_or_eq.1 hr with h' | h'
                · exact HQ.out h r h'
                · subst h'; rw [HM.out]; simpa using HBM.out⟩
        · go_wp2
          go_roundg (ko - 1)
          case measure => omega
          case rel => exact ⟨i + 1, by omega, by omega, by go_num, rfl, fun j hj hb => by
            rcases Nat.lt_succ_iff_lt_or_eq.1 hj with h | h
            · exact HA.out j h hb
            · subst h; rw [HT.out]; exact allDone_true fun r hr => HQ.out hb r (by omega)⟩
    · have hc : c = true := HCL.out.2 fun j hj hb => HA.out j (by omega) hb
      subst hc
      go_wp2
      go_ret
      exact retS rfl
end Go.Proofs.Ytidbmllelnffdaa
