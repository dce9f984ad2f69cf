

/- Package shop's laws: comparing lists, sizes. -/
import Derived.Test.YtoblmecgnpoogaaShpH
import Derived.Test.YtoblmecgnpoogaaTaskG
import Derived.BigQuiet
import Derived.Deep.LoopGhost
namespace Go.Proofs.Ytoblmecgnpoogaa
open Go.RowKit

set_option maxRecDepth 100000 in
set_option maxHeartbeats 2000000 in
theorem rints_any (x y : List Int) (r : Bool) (a b : Option Addr) (ca cb : Nat) (w : World) (hX : Ints w a x) (hY : Ints w b y) (hx : x.length < 9223372036854775808) (hy : y.length < 9223372036854775808) (hr : r = true ↔ x = y) :
    Calls Try.prog 16 #[.slice a x.length ca, .slice b y.length cb] w (RetB (.bool r) w) := by
  have HR := Lib.hid hr
  clear hr
  by_cases hl : x.length = y.length
  · have e : ((x.length : Int) != (y.length : Int)) = false := by simp; omega
    have HL := Lib.hid hl
    clear hl
    go_enter Try.func16, Try.ntmps16
    go_wp2_with fail
    clear e
    go_loopg [5] (x.length + 1) (fun k v5 wr => ∃ q : Nat, q ≤ x.length ∧ k + q = x.length + 1 ∧ v5 = .int .i64 q ∧ Below w.heap.size w wr ∧ ∀ r, r < q → ig x r = ig y r)
    case atStart => exact ⟨0, by omega, by omega, rfl, Below.refl _ _, fun r hr => absurd hr (by omega)⟩
    case round =>
      obtain ⟨q, hq, hk, rfl, hbel, hall⟩ := hrel
      have HA := Lib.hid hall
      clear hall
      by_cases hlt : q < x.length
      · have hlt2 : q < y.length := by have := HL.out; omega
        obtain ⟨xb, xo, rfl, fx⟩ := (hX.later hbel).fam (by omega)
        obtain ⟨yb, yo, rfl, fy⟩ := (hY.later hbel).fam (by omega)
        have gx := fx q hlt
        have gy := fy q hlt2
        clear fx fy
        have z0 : (0 : Int) ≤ (q : Int) := by omega
        have z1 : (q : Int) < (x.length : Int) := by omega
        have z2 : (q : Int) < (y.length : Int) := by omega
        by_cases he : ig x q = ig y q
        · have hne : (ig x q != ig y q) = false := by simpa using he
          have HE := Lib.hid he
          clear he
          go_wp2_with fail
          go_quiet (fail)
          go_wp2_with fail
          go_roundg (x.length - q)
          case measure => omega
          case rel => exact ⟨q + 1, by omega, by omega, by go_num, (by repeat (first | exact Below.refl _ _ | assumption | refine Below.drew ?_ | refine below_drewN ?_ _ | refine Below.alloc ?_ (by first | omega | (simp; done) | (simp; omega)) _ | refine Below.setCell ?_ (by first | omega | (simp; done) | (simp; omega)) _ | refine Below.trans ?_ (Below.mono (by assumption) (by first | omega | (simp; done) | (simp; omega))))), fun r hr => by
            rcases Nat.lt_succ_iff_lt_or_eq.1 hr with h | h
            · exact HA.out r h
            · subst h; exact HE.out⟩
        · have hne : (ig x q != ig y q) = true := by simpa using he
          have HE := Lib.hid he
          clear he
          go_wp2_with fail
          go_quiet (fail)
          go_wp2_with fail
          go_ret
          exact retB (vbool (by cases r; rfl; exact absurd (HR.out.1 rfl) (fun e => HE.out (by rw [e])))) (by repeat (first | exact Below.refl _ _ | assumption | refine Below.drew ?_ | refine below_drewN ?_ _ | refine Below.alloc ?_ (by first | omega | (simp; done) | (simp; omega)) _ | refine Below.setCell ?_ (by first | omega | (simp; done) | (simp; omega)) _ | refine Below.trans ?_ (Below.mono (by assumption) (by first | omega | (simp; done) | (simp; omega)))))
      · go_wp2_with fail
        go_ret
        exact retB (vbool (HR.out.2 (ints_ext HL.out fun j hj => HA.out j (by omega))).symm) (by repeat (first | exact Below.refl _ _ | assumption | refine Below.drew ?_ | refine below_drewN ?_ _ | refine Below.alloc ?_ (by first | omega | (simp; done) | (simp; omega)) _ | refine Below.setCell ?_ (by first | omega | (simp; done) | (simp; omega)) _ | refine Below.trans ?_ (Below.mono (by assumption) (by first | omega | (simp; done) | (simp; omega)))))
  · have e : ((x.length : Int) != (y.length : Int)) = true := by simp; omega
    go_enter Try.func16, Try.ntmps16
    go_wp2_with fail
    go_ret
    exact retB (vbool (by cases r; rfl; exact absurd (HR.out.1 rfl) (fun e => hl (by rw [e])))) (by repeat (first | exact Below.refl _ _ | assumption | refine Below.drew ?_ | refine below_drewN ?_ _ | refine Below.alloc ?_ (by first | omega | (simp; done) | (simp; omega)) _ | refine Below.setCell ?_ (by first | omega | (simp; done) | (simp; omega)) _ | refine Below.trans ?_ (Below.mono (by assumption) (by first | omega | (simp; done) | (simp; omega)))))

/-- returned a Boolean; the very world -/
def RetAS (w : World) (e : Ending) (w' : World) : Prop := ∃ b, RetS (.bool b) w e w'
theorem retAS {b : Bool} {w : World} : RetAS w (.returned (.bool b)) w := ⟨b, rfl, rfl⟩
set_option maxRecDepth 100000 in
set_option maxHeartbeats 2000000 in
theorem rfew_any (l : List Tk) (a : Option Addr) (cap : Nat) (w : World) (hT : Tasks w a l) (hl : l.length < 9223372036854775808) (hS : l.length ≤ 40 → ∀ i, i < l.length → (tg l i).after.length < 9223372036854775808) : Calls Try.prog 22 #[.slice a l.length cap] w (RetAS w) := by
  by_cases h45 : l.length ≤ 40
  · have HS := Lib.hid (hS h45)
    clear hS
    go_enter Try.func22, Try.ntmps22
    go_wp2_with fail
    go_loopg [3] (l.length + 1) (fun k v3 wr => ∃ q : Nat, q ≤ l.length ∧ k + q = l.length + 1 ∧ v3 = .int .i64 q ∧ w = wr)
    case atStart => exact ⟨0, by omega, by omega, rfl, rfl⟩
    case round =>
      obtain ⟨q, hq, hk, rfl, rfl⟩ := hrel
      by_cases hlt : q < l.length
      · have hs := HS.out q hlt
        obtain ⟨b, off, aa, ac, rfl, c0, c1, c2, c3, hI⟩ := hT q hlt
        clear c0 c1 c2 hI
        by_cases h : 45 < (tg l q).after.length
        · go_wp2_with fail
          go_ret
          exact retAS
        · go_wp2_with fail
          go_roundg (l.length - q)
          case measure => omega
          case rel => exact ⟨q + 1, by omega, by omega, by go_num, rfl⟩
      · go_wp2_with fail
        go_ret
        exact retAS
  · clear hS
    go_enter Try.func22, Try.ntmps22
    go_wp2_with fail
    refine wp_loop_rounds 1 ?_
    rw [rounds_succ]
    go_wp2_with fail
    go_ret
    exact retAS
set_option maxRecDepth 100000 in
set_option maxHeartbeats 2000000 in
theorem few_any (l : List Tk) (a : Option Addr) (cap : Nat) (w : World) (hT : Tasks w a l) (hl : l.length < 9223372036854775808) (hS : l.length ≤ 40 → ∀ i, i < l.length → (tg l i).after.length < 9223372036854775808) : Calls Try.prog 11 #[.slice a l.length cap] w (RetAS w) := by
  have HF := Lib.hid (rfew_any l a cap w hT hl hS)
  clear hS
  by_cases h45 : l.length ≤ 40
  · go_enter Try.func11, Try.ntmps11
    go_wp2_with fail
    go_loopg [3, 4] (l.length + 1) (fun k v3 v4 wr => ∃ (q : Nat) (x : Int), q ≤ l.length ∧ k + q = l.length + 1 ∧ v4 = .int .i64 q ∧ v3 = .int .i64 x ∧ w = wr)
    case atStart => exact ⟨0, 0, by omega, by omega, rfl, rfl, rfl⟩
    case round =>
      obtain ⟨q, x, hq, hk, rfl, rfl, rfl⟩ := hrel
      by_cases hlt : q < l.length
      · obtain ⟨b, off, aa, ac, rfl, c0, c1, c2, c3, hI⟩ := hT q hlt
        clear c1 c2 c3 hI
        obtain ⟨u, hu⟩ : ∃ u, u = (tg l q).hours := ⟨_, rfl⟩
        rw [← hu] at c0
        clear hu
        by_cases h : 1000 < u
        · clear HF
          go_wp2_with fail
          go_ret
          exact retAS
        · go_wp2_with fail
          go_roundg (l.length - q)
          case measure => omega
          case rel => exact ⟨q + 1, _, by omega, by omega, by go_num, rfl, rfl⟩
      · by_cases hx : x ≤ 1000
        · go_wp2_with fail
          refine Calls.mono HF.out ?_
          rintro e w1 ⟨b, rfl, rfl⟩
          go_wp2_with fail
          go_ret
          exact retAS
        · go_wp2_with fail
          go_ret
          exact retAS
  · go_enter Try.func11, Try.ntmps11
    go_wp2_with fail
    refine wp_loop_rounds 1 ?_
    rw [rounds_succ]
    go_wp2_with fail
    refine Calls.mono HF.out ?_
    rintro e w1 ⟨b, rfl, rfl⟩
    go_wp2_with fail
    go_ret
    exact retAS
end Go.Proofs.Ytoblmecgnpoogaa
