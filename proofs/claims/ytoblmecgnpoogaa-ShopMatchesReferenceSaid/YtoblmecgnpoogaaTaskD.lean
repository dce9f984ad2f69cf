
/- Contracts of package task's reference: Valid. -/
import Derived.Test.YtoblmecgnpoogaaTaskC
import Derived.Deep.QuietTactic
import Derived.BigQuiet
namespace Go.Proofs.Ytoblmecgnpoogaa
open Go.RowKit

set_option maxRecDepth 100000 in
set_option maxHeartbeats 4000000 in
theorem rvalid_any (l : List Tk) (a : Option Addr) (cap : Nat) (r : Bool) (w : World) (hT : Tasks w a l) (hl : l.length < 9223372036854775808) (hS : l.length ≤ 40 → ∀ i, i < l.length → (tg l i).after.length < 9223372036854775808) (hr : r = true ↔ VT l) :
    Calls Try.prog 33 #[.slice a l.length cap] w (RetB (.bool r) w) := by
  have HR := Lib.hid hr
  clear hr
  by_cases h40 : l.length ≤ 40
  · have hS' := hS h40
    clear hS
    have HS := Lib.hid hS'
    clear hS'
    go_enter Try.func33, Try.ntmps33
    go_wp2
    go_loopg [3] (l.length + 1) (fun k v3 wr => ∃ i : Nat, i ≤ l.length ∧ k + i = l.length + 1 ∧ v3 = .int .i64 i ∧ Below w.heap.size w wr ∧ ∀ r, r < i → TOk l.length (tg l r))
    case atStart => exact ⟨0, by omega, by omega, rfl, Below.refl _ _, fun r hr => absurd hr (by omega)⟩
    case round =>
      obtain ⟨wo, rfl⟩ : ∃ wo : World, wo = wr := ⟨_, rfl⟩
      obtain ⟨i, hi, hk, rfl, hbel, hall⟩ := hrel
      have HA := Lib.hid hall
      clear hall
      by_cases hlt : i < l.length
      · have hs := HS.out i hlt
        have hsz := hbel.size; obtain ⟨b, off, aa, ac, rfl, c0, c1, c2, c3, hI⟩ := (hT.later hbel) i hlt
        obtain ⟨t, ht⟩ : ∃ t, tg l i = t := ⟨_, rfl⟩
        rw [ht] at c0 c1 c2 c3 hI hs
        have HTt := Lib.hid ht
        clear ht hT
        by_cases h1 : t.hours < 1
        · go_wp2
          go_ret
          exact retB (vbool (by cases r; rfl; exact absurd (((HR.out.1 rfl).2 i hlt)) (by rw [HTt.out]; unfold TOk; omega))) (by repeat (first | exact Below.refl _ _ | assumption | refine Below.drew ?_ | refine below_drewN ?_ _ | refine Below.alloc ?_ (by first | omega | (simp; done) | (simp; omega)) _ | refine Below.setCell ?_ (by first | omega | (simp; done) | (simp; omega)) _ | refine Below.trans ?_ (Below.mono (by assumption) (by first | omega | (simp; done) | (simp; omega)))))
        · by_cases h2 : 1000 < t.hours
          · go_wp2
            go_ret
            exact retB (vbool (by cases r; rfl; exact absurd (((HR.out.1 rfl).2 i hlt)) (by rw [HTt.out]; unfold TOk; omega))) (by repeat (first | exact Below.refl _ _ | assumption | refine Below.drew ?_ | refine below_drewN ?_ _ | refine Below.alloc ?_ (by first | omega | (simp; done) | (simp; omega)) _ | refine Below.setCell ?_ (by first | omega | (simp; done) | (simp; omega)) _ | refine Below.trans ?_ (Below.mono (by assumption) (by first | omega | (simp; done) | (simp; omega)))))
          · by_cases h3 : t.skill < 0
            · go_wp2
              go_ret
              exact retB (vbool (by cases r; rfl; exact absurd (((HR.out.1 rfl).2 i hlt)) (by rw [HTt.out]; unfold TOk; omega))) (by repeat (first | exact Below.refl _ _ | assumption | refine Below.drew ?_ | refine below_drewN ?_ _ | refine Below.alloc ?_ (by first | omega | (simp; done) | (simp; omega)) _ | refine Below.setCell ?_ (by first | omega | (simp; done) | (simp; omega)) _ | refine Below.trans ?_ (Below.mono (by assumption) (by first | omega | (simp; done) | (simp; omega)))))
            · by_cases h4 : 8 ≤ t.skill
              · go_wp2
                go_ret
                exact retB (vbool (by cases r; rfl; exact absurd (((HR.out.1 rfl).2 i hlt)) (by rw [HTt.out]; unfold TOk; omega))) (by repeat (first | exact Below.refl _ _ | assumption | refine Below.drew ?_ | refine below_drewN ?_ _ | refine Below.alloc ?_ (by first | omega | (simp; done) | (simp; omega)) _ | refine Below.setCell ?_ (by first | omega | (simp; done) | (simp; omega)) _ | refine Below.trans ?_ (Below.mono (by assumption) (by first | omega | (simp; done) | (simp; omega)))))
              · by_cases h5 : l.length < t.after.length
                · go_wp2
                  go_ret
                  exact retB (vbool (by cases r; rfl; exact absurd (good_len ((HR.out.1 rfl).2 i hlt).2.2.2.2) (by rw [HTt.out]; omega))) (by repeat (first | exact Below.refl _ _ | assumption | refine Below.drew ?_ | refine below_drewN ?_ _ | refine Below.alloc ?_ (by first | omega | (simp; done) | (simp; omega)) _ | refine Below.setCell ?_ (by first | omega | (simp; done) | (simp; omega)) _ | refine Below.trans ?_ (Below.mono (by assumption) (by first | omega | (simp; done) | (simp; omega)))))
                · go_wp2
                  go_loopg [5] (t.after.length + 1) (fun k v5 wq => ∃ q : Nat, q ≤ t.after.length ∧ k + q = t.after.length + 1 ∧ v5 = .int .i64 q ∧ Below (wo.heap.size + 1) (wo.alloc (.cells #[.int .i64 t.hours, .int .i64 t.skill, .bool t.bay, .slice aa t.after.length ac] 38)) wq ∧ ∀ r, r < q → GoodAt l.length t.after r)
                  case atStart => exact ⟨0, by omega, by omega, rfl, Below.refl _ _, fun r hr => absurd hr (by omega)⟩
                  case round =>
                    obtain ⟨q, hq, hkq, rfl, hbq, hgood⟩ := hrel
                    have hsq : wo.heap.size + 1 ≤ wr.heap.size := by have := hbq.size; simpa using this
                    have HG := Lib.hid hgood
                    clear hgood
                    have kc : wr.cell? ⟨wo.heap.size, 3, none⟩ = some (Value.slice aa t.after.length ac) := (hbq.cell (p := ⟨wo.heap.size, 3, none⟩) (by first | omega | (simp; done) | (simp; omega))).trans (by simp [go_sem])
                    by_cases hlq : q < t.after.length
                    · obtain ⟨ab, aoff, rfl, fa⟩ := (hI.later (w1 := wr) (by repeat (first | exact Below.refl _ _ | assumption | refine Below.drew ?_ | refine below_drewN ?_ _ | refine Below.alloc ?_ (by first | omega | (simp; done) | (simp; omega)) _ | refine Below.setCell ?_ (by first | omega | (simp; done) | (simp; omega)) _ | refine Below.trans ?_ (Below.mono (by assumption) (by first | omega | (simp; done) | (simp; omega)))))).fam (by omega)
                      have fq := fa q hlq
                      have z0 : (0 : Int) ≤ (q : Int) := by omega
                      have z1 : (q : Int) < (t.after.length : Int) := by omega
                      by_cases j1 : ig t.after q < 0
                      · clear fa
                        go_wp2
                        go_quiet (fail)
                        go_wp2
                        go_ret
                        exact retB (vbool (by cases r; rfl; exact absurd (good_in ((HR.out.1 rfl).2 i hlt).2.2.2.2 (r := q) (by rw [HTt.out]; exact hlq)) (by rw [HTt.out]; omega))) (by repeat (first | exact Below.refl _ _ | assumption | refine Below.drew ?_ | refine below_drewN ?_ _ | refine Below.alloc ?_ (by first | omega | (simp; done) | (simp; omega)) _ | refine Below.setCell ?_ (by first | omega | (simp; done) | (simp; omega)) _ | refine Below.trans ?_ (Below.mono (by assumption) (by first | omega | (simp; done) | (simp; omega)))))
                      · have hd1 : decide (ig t.after q < 0) = false := by simpa using j1
                        by_cases j2 : (l.length : Int) ≤ ig t.after q
                        · clear fa
                          go_wp2
                          go_quiet (fail)
                          go_wp2
                          go_ret
                          exact retB (vbool (by cases r; rfl; exact absurd (good_in ((HR.out.1 rfl).2 i hlt).2.2.2.2 (r := q) (by rw [HTt.out]; exact hlq)) (by rw [HTt.out]; omega))) (by repeat (first | exact Below.refl _ _ | assumption | refine Below.drew ?_ | refine below_drewN ?_ _ | refine Below.alloc ?_ (by first | omega | (simp; done) | (simp; omega)) _ | refine Below.setCell ?_ (by first | omega | (simp; done) | (simp; omega)) _ | refine Below.trans ?_ (Below.mono (by assumption) (by first | omega | (simp; done) | (simp; omega)))))
                        · have hd2 : decide ((l.length : Int) ≤ ig t.after q) = false := by simpa using j2
                          cases q with
                          | zero =>
                            clear fa
                            have fq0 : wr.cell? ⟨ab, aoff, none⟩ = some (.int .i64 (ig t.after 0)) := by simpa using fq
                            have z9 : (0 : Int) < (t.after.length : Int) := by omega
                            have hg : GoodAt l.length t.after 0 := by unfold GoodAt; rw [prv_zero]; omega
                            have HG0 := Lib.hid hg
                            clear fq z0 z1 hg
                            go_wp2
                            go_quiet (fail)
                            go_wp2
                            go_roundg (t.after.length)
                            case measure => omega
                            case rel => exact ⟨1, by omega, by omega, by go_num, (by repeat (first | exact Below.refl _ _ | assumption | refine Below.drew ?_ | refine below_drewN ?_ _ | refine Below.alloc ?_ (by first | omega | (simp; done) | (simp; omega)) _ | refine Below.setCell ?_ (by first | omega | (simp; done) | (simp; omega)) _ | refine Below.trans ?_ (Below.mono (by assumption) (by first | omega | (simp; done) | (simp; omega))))), fun r hr => by
                              have : r = 0 := by omega
                              subst this
                              exact HG0.out⟩
                          | succ p =>
                            have fp := fa p (by omega)
                            have z2 : (p : Int) < (t.after.length : Int) := by omega
                            clear fa
                            by_cases j3 : ig t.after (p + 1) ≤ ig t.after p
                            · go_wp2
                              go_quiet (fail)
                              go_wp2
                              go_ret
                              exact retB (vbool (by cases r; rfl; exact absurd (((HR.out.1 rfl).2 i hlt).2.2.2.2 (p + 1) (by rw [HTt.out]; exact hlq)) (by rw [HTt.out]; unfold GoodAt; rw [prv_succ]; omega))) (by repeat (first | exact Below.refl _ _ | assumption | refine Below.drew ?_ | refine below_drewN ?_ _ | refine Below.alloc ?_ (by first | omega | (simp; done) | (simp; omega)) _ | refine Below.setCell ?_ (by first | omega | (simp; done) | (simp; omega)) _ | refine Below.trans ?_ (Below.mono (by assumption) (by first | omega | (simp; done) | (simp; omega)))))
                            · have hd3 : decide (ig t.after (p + 1) ≤ ig t.after p) = false := by simpa using j3
                              go_wp2
                              go_quiet (fail)
                              go_wp2
                              go_roundg (t.after.length - (p + 1))
                              case measure => omega
                              case rel => exact ⟨p + 1 + 1, by omega, by omega, by go_num, (by repeat (first | exact Below.refl _ _ | assumption | refine Below.drew ?_ | refine below_drewN ?_ _ | refine Below.alloc ?_ (by first | omega | (simp; done) | (simp; omega)) _ | refine Below.setCell ?_ (by first | omega | (simp; done) | (simp; omega)) _ | refine Below.trans ?_ (Below.mono (by assumption) (by first | omega | (simp; done) | (simp; omega))))), fun r hr => by
                                rcases Nat.lt_succ_iff_lt_or_eq.1 hr with h | h
                                · exact HG.out r h
                                · subst h; unfold GoodAt; rw [prv_succ]; omega⟩
                    · go_wp2
                      go_roundg (l.length - i)
                      case measure => omega
                      case rel => exact ⟨i + 1, by omega, by omega, by go_num, (by repeat (first | exact Below.refl _ _ | assumption | refine Below.drew ?_ | refine below_drewN ?_ _ | refine Below.alloc ?_ (by first | omega | (simp; done) | (simp; omega)) _ | refine Below.setCell ?_ (by first | omega | (simp; done) | (simp; omega)) _ | refine Below.trans ?_ (Below.mono (by assumption) (by first | omega | (simp; done) | (simp; omega))))), fun r hr => by
                        rcases Nat.lt_succ_iff_lt_or_eq.1 hr with h | h
                        · exact HA.out r h
                        · subst h; rw [HTt.out]; exact ⟨by omega, by omega, by omega, by omega, fun r' hr' => HG.out r' (by omega)⟩⟩
      · go_wp2
        go_ret
        exact retB (vbool (HR.out.2 ⟨h40, fun j hj => HA.out j (by omega)⟩).symm) (by repeat (first | exact Below.refl _ _ | assumption | refine Below.drew ?_ | refine below_drewN ?_ _ | refine Below.alloc ?_ (by first | omega | (simp; done) | (simp; omega)) _ | refine Below.setCell ?_ (by first | omega | (simp; done) | (simp; omega)) _ | refine Below.trans ?_ (Below.mono (by assumption) (by first | omega | (simp; done) | (simp; omega)))))
  · clear hS
    go_enter Try.func33, Try.ntmps33
    go_wp2
    go_ret
    exact retB (vbool (by cases r; rfl; exact absurd (HR.out.1 rfl).1 h40)) (by repeat (first | exact Below.refl _ _ | assumption | refine Below.drew ?_ | refine below_drewN ?_ _ | refine Below.alloc ?_ (by first | omega | (simp; done) | (simp; omega)) _ | refine Below.setCell ?_ (by first | omega | (simp; done) | (simp; omega)) _ | refine Below.trans ?_ (Below.mono (by assumption) (by first | omega | (simp; done) | (simp; omega)))))
end Go.Proofs.Ytoblmecgnpoogaa

