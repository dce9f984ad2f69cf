
/- Contracts of package task and of its reference: Valid. -/
import Derived.Test.YtoblmecgnpoogaaTaskB
namespace Go.Proofs.Ytoblmecgnpoogaa
open Go.RowKit

/-- the one before, or -1 -/
def prv (l : List Int) (r : Nat) : Int := if r = 0 then -1 else ig l (r - 1)
def GoodAt (n : Nat) (l : List Int) (r : Nat) : Prop := prv l r < ig l r ∧ ig l r < n
/-- a task of n is well formed -/
def TOk (n : Nat) (t : Tk) : Prop := 1 ≤ t.hours ∧ t.hours ≤ 1000 ∧ 0 ≤ t.skill ∧ t.skill < 8 ∧ ∀ r, r < t.after.length → GoodAt n t.after r
def VT (l : List Tk) : Prop := l.length ≤ 40 ∧ ∀ i, i < l.length → TOk l.length (tg l i)
/-- the sizes that the walk wants -/
def Small (l : List Tk) : Prop := l.length ≤ 1000 ∧ ∀ i, i < l.length → (tg l i).after.length ≤ 1000

theorem prv_succ (l : List Int) (q : Nat) : prv l (q + 1) = ig l q := by simp [prv]
theorem prv_zero (l : List Int) : prv l 0 = -1 := rfl
theorem prv_ge {n : Nat} {l : List Int} {q : Nat} (h : ∀ r, r < q → GoodAt n l r) : -1 ≤ prv l q ∧ (q : Int) ≤ prv l q + 1 ∧ (0 < q → prv l q < n) := by
  induction q with
  | zero => simp [prv]
  | succ q ih =>
    have h1 := ih fun r hr => h r (by omega)
    have h2 := h q (by omega)
    rw [prv_succ]
    unfold GoodAt at h2
    omega
theorem good_len {n : Nat} {l : List Int} (h : ∀ r, r < l.length → GoodAt n l r) : l.length ≤ n := by
  have := prv_ge h
  by_cases hl : 0 < l.length
  · have := this.2.2 hl; omega
  · omega
theorem good_in {n : Nat} {l : List Int} (h : ∀ r, r < l.length → GoodAt n l r) {r : Nat} (hr : r < l.length) : 0 ≤ ig l r ∧ ig l r < n := by
  have h1 := prv_ge (q := r) fun r' hr' => h r' (by omega)
  have h2 := h r hr
  unfold GoodAt at h2
  omega

set_option maxHeartbeats 2000000 in
theorem valid_any (l : List Tk) (a : Option Addr) (cap : Nat) (r : Bool) (w : World) (hT : Tasks w a l) (hl : l.length < 9223372036854775808) (hS : l.length ≤ 40 → ∀ i, i < l.length → (tg l i).after.length < 9223372036854775808) (hr : r = true ↔ VT l) :
    Calls Try.prog 38 #[.slice a l.length cap] w (RetB (.bool r) w) := by
  have HR := Lib.hid hr
  clear hr
  by_cases h40 : l.length ≤ 40
  · have hS' := hS h40
    clear hS
    have HS := Lib.hid hS'
    clear hS'
    go_enter Try.func38, Try.ntmps38
    go_wp2
    go_loopg [13] (l.length + 1) (fun k v13 wr => ∃ i : Nat, i ≤ l.length ∧ k + i = l.length + 1 ∧ v13 = .int .i64 i ∧ Below w.heap.size w wr ∧ ∀ r, r < i → TOk l.length (tg l r))
    case atStart => exact ⟨0, by omega, by omega, rfl, Below.refl _ _, fun r hr => absurd hr (by omega)⟩
    case round =>
      obtain ⟨i, hi, hk, rfl, hbel, hall⟩ := hrel
      have HA := Lib.hid hall
      clear hall
      by_cases hlt : i < l.length
      · have hs := HS.out i hlt
        have hsz := hbel.size; obtain ⟨b, off, aa, ac, rfl, c0, c1, c2, c3, hI⟩ := (hT.later hbel) i hlt
        obtain ⟨t, ht⟩ : ∃ t, tg l i = t := ⟨_, rfl⟩
        rw [ht] at c0 c1 c2 c3 hI hs
        have HTt := Lib.hid ht
        clear ht hT
        by_cases h1 : t.hours < 1
        · go_wp2
          go_ret
          exact retB (vbool (by cases r; rfl; exact absurd (((HR.out.1 rfl).2 i hlt)) (by rw [HTt.out]; unfold TOk; omega))) (by repeat (first | exact Below.refl _ _ | assumption | refine Below.drew ?_ | refine below_drewN ?_ _ | refine Below.alloc ?_ (by first | omega | (simp; done) | (simp; omega)) _ | refine Below.setCell ?_ (by first | omega | (simp; done) | (simp; omega)) _ | refine Below.trans ?_ (Below.mono (by assumption) (by first | omega | (simp; done) | (simp; omega)))))
        · by_cases h2 : 1000 < t.hours
          · go_wp2
            go_ret
            exact retB (vbool (by cases r; rfl; exact absurd (((HR.out.1 rfl).2 i hlt)) (by rw [HTt.out]; unfold TOk; omega))) (by repeat (first | exact Below.refl _ _ | assumption | refine Below.drew ?_ | refine below_drewN ?_ _ | refine Below.alloc ?_ (by first | omega | (simp; done) | (simp; omega)) _ | refine Below.setCell ?_ (by first | omega | (simp; done) | (simp; omega)) _ | refine Below.trans ?_ (Below.mono (by assumption) (by first | omega | (simp; done) | (simp; omega)))))
          · by_cases h3 : t.skill < 0
            · go_wp2
              go_ret
              exact retB (vbool (by cases r; rfl; exact absurd (((HR.out.1 rfl).2 i hlt)) (by rw [HTt.out]; unfold TOk; omega))) (by repeat (first | exact Below.refl _ _ | assumption | refine Below.drew ?_ | refine below_drewN ?_ _ | refine Below.alloc ?_ (by first | omega | (simp; done) | (simp; omega)) _ | refine Below.setCell ?_ (by first | omega | (simp; done) | (simp; omega)) _ | refine Below.trans ?_ (Below.mono (by assumption) (by first | omega | (simp; done) | (simp; omega)))))
            · by_cases h4 : 8 ≤ t.skill
              · go_wp2
                go_ret
                exact retB (vbool (by cases r; rfl; exact absurd (((HR.out.1 rfl).2 i hlt)) (by rw [HTt.out]; unfold TOk; omega))) (by repeat (first | exact Below.refl _ _ | assumption | refine Below.drew ?_ | refine below_drewN ?_ _ | refine Below.alloc ?_ (by first | omega | (simp; done) | (simp; omega)) _ | refine Below.setCell ?_ (by first | omega | (simp; done) | (simp; omega)) _ | refine Below.trans ?_ (Below.mono (by assumption) (by first | omega | (simp; done) | (simp; omega)))))
              · go_wp2
                have hbel1 : Below wr.heap.size wr wr := Below.refl _ _
                go_loopg [5, 38] (t.after.length + 1) (fun k v5 v38 wq => ∃ q : Nat, q ≤ t.after.length ∧ k + q = t.after.length + 1 ∧ v38 = .int .i64 q ∧ v5 = .int .i64 (prv t.after q) ∧ Below wr.heap.size wr wq ∧ ∀ r, r < q → GoodAt l.length t.after r)
                case atStart => exact ⟨0, by omega, by omega, rfl, rfl, (by repeat (first | exact Below.refl _ _ | assumption | refine Below.drew ?_ | refine below_drewN ?_ _ | refine Below.alloc ?_ (by first | omega | (simp; done) | (simp; omega)) _ | refine Below.setCell ?_ (by first | omega | (simp; done) | (simp; omega)) _ | refine Below.trans ?_ (Below.mono (by assumption) (by first | omega | (simp; done) | (simp; omega))))), fun r hr => absurd hr (by omega)⟩
                case round =>
                  rename_i gk0 wr0 _ _
                  obtain ⟨q, hq, hkq, rfl, rfl, hbq, hgood⟩ := hrel
                  have hsq := hbq.size
                  have HG := Lib.hid hgood
                  clear hgood
                  by_cases hlq : q < t.after.length
                  · obtain ⟨ab, aoff, rfl, fa⟩ := (hI.later hbq).fam (by omega)
                    have fq := fa q hlq
                    clear fa
                    by_cases j1 : ig t.after q ≤ prv t.after q
                    · go_wp2
                      go_ret
                      exact retB (vbool (by cases r; rfl; exact absurd (((HR.out.1 rfl).2 i hlt).2.2.2.2 q (by rw [HTt.out]; exact hlq)) (by rw [HTt.out]; unfold GoodAt; omega))) (by repeat (first | exact Below.refl _ _ | assumption | refine Below.drew ?_ | refine below_drewN ?_ _ | refine Below.alloc ?_ (by first | omega | (simp; done) | (simp; omega)) _ | refine Below.setCell ?_ (by first | omega | (simp; done) | (simp; omega)) _ | refine Below.trans ?_ (Below.mono (by assumption) (by first | omega | (simp; done) | (simp; omega)))))
                    · by_cases j2 : (l.length : Int) ≤ ig t.after q
                      · go_wp2
                        go_ret
                        exact retB (vbool (by cases r; rfl; exact absurd (((HR.out.1 rfl).2 i hlt).2.2.2.2 q (by rw [HTt.out]; exact hlq)) (by rw [HTt.out]; unfold GoodAt; omega))) (by repeat (first | exact Below.refl _ _ | assumption | refine Below.drew ?_ | refine below_drewN ?_ _ | refine Below.alloc ?_ (by first | omega | (simp; done) | (simp; omega)) _ | refine Below.setCell ?_ (by first | omega | (simp; done) | (simp; omega)) _ | refine Below.trans ?_ (Below.mono (by assumption) (by first | omega | (simp; done) | (simp; omega)))))
                      · go_wp2
                        go_roundg (t.after.length - q)
                        case measure => omega
                        case rel => exact ⟨q + 1, by omega, by omega, by go_num, by rw [prv_succ], hbq, fun r hr => by
                          rcases Nat.lt_succ_iff_lt_or_eq.1 hr with h | h
                          · exact HG.out r h
                          · subst h; unfold GoodAt; omega⟩
                  · go_wp2
                    go_roundg (l.length - i)
                    case measure => omega
                    case rel => exact ⟨i + 1, by omega, by omega, by go_num, (by repeat (first | exact Below.refl _ _ | assumption | refine Below.drew ?_ | refine below_drewN ?_ _ | refine Below.alloc ?_ (by first | omega | (simp; done) | (simp; omega)) _ | refine Below.setCell ?_ (by first | omega | (simp; done) | (simp; omega)) _ | refine Below.trans ?_ (Below.mono (by assumption) (by first | omega | (simp; done) | (simp; omega))))), fun r hr => by
                      rcases Nat.lt_succ_iff_lt_or_eq.1 hr with h | h
                      · exact HA.out r h
                      · subst h; rw [HTt.out]; exact ⟨by omega, by omega, by omega, by omega, fun r' hr' => HG.out r' (by omega)⟩⟩
      · go_wp2
        go_ret
        exact retB (vbool (HR.out.2 ⟨h40, fun j hj => HA.out j (by omega)⟩).symm) (by repeat (first | exact Below.refl _ _ | assumption | refine Below.drew ?_ | refine below_drewN ?_ _ | refine Below.alloc ?_ (by first | omega | (simp; done) | (simp; omega)) _ | refine Below.setCell ?_ (by first | omega | (simp; done) | (simp; omega)) _ | refine Below.trans ?_ (Below.mono (by assumption) (by first | omega | (simp; done) | (simp; omega)))))
  · clear hS
    go_enter Try.func38, Try.ntmps38
    go_wp2
    go_ret
    exact retB (vbool (by cases r; rfl; exact absurd (HR.out.1 rfl).1 h40)) (by repeat (first | exact Below.refl _ _ | assumption | refine Below.drew ?_ | refine below_drewN ?_ _ | refine Below.alloc ?_ (by first | omega | (simp; done) | (simp; omega)) _ | refine Below.setCell ?_ (by first | omega | (simp; done) | (simp; omega)) _ | refine Below.trans ?_ (Below.mono (by assumption) (by first | omega | (simp; done) | (simp; omega)))))
end Go.Proofs.Ytoblmecgnpoogaa

