
/- Package shop: what fits. -/
import Derived.Test.YtoblmecgnpoogaaShpB
import Derived.Deep.Cut
namespace Go.Proofs.Ytoblmecgnpoogaa
open Go.RowKit

def fitsP (x : Ld) (s : Sh) : Prop := (∀ k, k < 8 → 0 < ig x.p k → k < s.staff.length ∧ ig x.p k ≤ ig s.staff k) ∧ x.b ≤ s.bays
noncomputable def fitsB (x : Ld) (s : Sh) : Bool := @decide (fitsP x s) (Classical.propDecidable _)
theorem fitsB_yes {x : Ld} {s : Sh} (h : fitsP x s) : fitsB x s = true := @decide_eq_true _ (Classical.propDecidable _) h
theorem fitsB_no {x : Ld} {s : Sh} (h : ¬ fitsP x s) : fitsB x s = false := @decide_eq_false _ (Classical.propDecidable _) h
abbrev shV (s : Sh) (a : Option Addr) (cap : Nat) : Value := .agg #[.slice a s.staff.length cap, .int .i64 s.bays]
theorem run_idx8 (x0 x1 x2 x3 x4 x5 x6 x7 : Int) (p : List Int) (h0 : x0 = ig p 0) (h1 : x1 = ig p 1) (h2 : x2 = ig p 2) (h3 : x3 = ig p 3) (h4 : x4 = ig p 4) (h5 : x5 = ig p 5) (h6 : x6 = ig p 6) (h7 : x7 = ig p 7) (k : Nat) (hk : k < 8) (w : World) :
    (Instr.index 47 (.agg #[Value.int .i64 x0, .int .i64 x1, .int .i64 x2, .int .i64 x3, .int .i64 x4, .int .i64 x5, .int .i64 x6, .int .i64 x7]) (.int .i64 k)).run Try.prog w = .ok (.int .i64 (ig p k)) w := by
  have : k = 0 ∨ k = 1 ∨ k = 2 ∨ k = 3 ∨ k = 4 ∨ k = 5 ∨ k = 6 ∨ k = 7 := by omega
  subst h0 h1 h2 h3 h4 h5 h6 h7
  rcases this with rfl | rfl | rfl | rfl | rfl | rfl | rfl | rfl <;> (first | (simp [go_sem]; done) | rfl | (simp [go_sem, Instr.index]; done) | (simp [go_sem, Instr.index]; rfl))
set_option maxRecDepth 100000 in
set_option maxHeartbeats 4000000 in
theorem fits_any (x : Ld) (s : Sh) (a : Option Addr) (cap : Nat) (w : World) (hI : Ints w a s.staff) :
    Calls Try.prog 28 #[ldV x, shV s a cap] w (RetB (.bool (fitsB x s)) w) := by
  have HI := Lib.hid hI
  obtain ⟨n, hn⟩ : ∃ n, n = s.staff.length := ⟨_, rfl⟩
  have HN := Lib.hid hn
  unfold ldV ldC shV
  rw [← hn]
  obtain ⟨x0, h0⟩ : ∃ b, b = ig x.p 0 := ⟨_, rfl⟩
  obtain ⟨x1, h1⟩ : ∃ b, b = ig x.p 1 := ⟨_, rfl⟩
  obtain ⟨x2, h2⟩ : ∃ b, b = ig x.p 2 := ⟨_, rfl⟩
  obtain ⟨x3, h3⟩ : ∃ b, b = ig x.p 3 := ⟨_, rfl⟩
  obtain ⟨x4, h4⟩ : ∃ b, b = ig x.p 4 := ⟨_, rfl⟩
  obtain ⟨x5, h5⟩ : ∃ b, b = ig x.p 5 := ⟨_, rfl⟩
  obtain ⟨x6, h6⟩ : ∃ b, b = ig x.p 6 := ⟨_, rfl⟩
  obtain ⟨x7, h7⟩ : ∃ b, b = ig x.p 7 := ⟨_, rfl⟩
  obtain ⟨xb, hxb⟩ : ∃ b, b = x.b := ⟨_, rfl⟩
  obtain ⟨bs, hbs⟩ : ∃ b, b = s.bays := ⟨_, rfl⟩
  have HIX := Lib.hid (run_idx8 x0 x1 x2 x3 x4 x5 x6 x7 x.p h0 h1 h2 h3 h4 h5 h6 h7)
  have HB := Lib.hid (And.intro hxb hbs)
  rw [← h0, ← h1, ← h2, ← h3, ← h4, ← h5, ← h6, ← h7, ← hxb, ← hbs]
  clear hI hn h0 h1 h2 h3 h4 h5 h6 h7 hxb hbs
  go_enter Try.func28, Try.ntmps28
  go_upto_region 1 with fail
  obtain ⟨wX, X, Y, hXY, hbX, hBX, hBY, hwX⟩ : ∃ wX X Y, (X = w.heap.size ∧ Y = w.heap.size + 1) ∧ Below w.heap.size w wX ∧ BoxAt wX X [.int .i64 x0, .int .i64 x1, .int .i64 x2, .int .i64 x3, .int .i64 x4, .int .i64 x5, .int .i64 x6, .int .i64 x7, .int .i64 xb] ∧ BoxAt wX Y [.slice a n cap, .int .i64 bs] ∧ wX = (w.alloc (.cells #[.int .i64 x0, .int .i64 x1, .int .i64 x2, .int .i64 x3, .int .i64 x4, .int .i64 x5, .int .i64 x6, .int .i64 x7, .int .i64 xb] 49)).alloc (.cells #[.slice a n cap, .int .i64 bs] 25) := ⟨_, _, _, ⟨rfl, rfl⟩, ((Below.refl _ _).alloc (Nat.le_refl _) _).alloc (by simp) _, (BoxAt.new w _ _).alloc _, by
    have h := BoxAt.new (w.alloc (.cells #[.int .i64 x0, .int .i64 x1, .int .i64 x2, .int .i64 x3, .int .i64 x4, .int .i64 x5, .int .i64 x6, .int .i64 x7, .int .i64 xb] 49)) [.slice a n cap, .int .i64 bs] 25
    rw [World.size_alloc] at h
    exact h, rfl⟩
  rw [← hwX, ← hXY.2, ← hXY.1]
  have HBX := Lib.hid hbX
  have c0 := (hBX 0 _ rfl).1
  have c1 := (hBX 1 _ rfl).1
  have c2 := (hBX 2 _ rfl).1
  have c3 := (hBX 3 _ rfl).1
  have c4 := (hBX 4 _ rfl).1
  have c5 := (hBX 5 _ rfl).1
  have c6 := (hBX 6 _ rfl).1
  have c7 := (hBX 7 _ rfl).1
  have c8 := (hBX 8 _ rfl).1
  have d0 := (hBY 0 _ rfl).1
  have d1 := (hBY 1 _ rfl).1
  have HIW := Lib.hid (HI.out.later hbX)
  clear hXY hbX hBX hBY hwX
  go_wp2_with fail
  go_loopg [9] 9 (fun g v9 wr => ∃ k : Nat, k ≤ 8 ∧ g + k = 9 ∧ v9 = .int .i64 k ∧ wr = wX ∧ ∀ j, j < k → 0 < ig x.p j → j < s.staff.length ∧ ig x.p j ≤ ig s.staff j)
  case atStart => exact ⟨0, by omega, by omega, rfl, rfl, fun j hj => absurd hj (by omega)⟩
  case round =>
    obtain ⟨k, hk, hgk, rfl, rfl, hall⟩ := hrel
    have HALL := Lib.hid hall
    clear hall
    by_cases hlt : k < 8
    · have hix := HIX.out k hlt wr
      obtain ⟨y, hy⟩ : ∃ y, y = ig x.p k := ⟨_, rfl⟩
      rw [← hy] at hix
      have HY := Lib.hid hy
      have n0 : (0 : Int) ≤ (k : Int) := by omega
      have n1 : (k : Int) < 8 := by omega
      clear hy
      by_cases h1 : 0 < y
      · have e1 : decide (0 < y) = true := decide_eq_true h1
        by_cases h2 : n ≤ k
        · have e2 : decide ((n : Int) ≤ (k : Int)) = true := decide_eq_true (by omega)
          have e2' : decide (n ≤ k) = true := decide_eq_true h2
          have HE := Lib.hid (fitsB_no (x := x) (s := s) fun h => by
            have := (h.1 k hlt (by rw [← HY.out]; exact h1)).1
            have := HN.out
            omega)
          clear h1 h2
          go_wp2_with fail
          go_ret
          exact retB (vbool HE.out.symm) HBX.out
        · have e2 : decide ((n : Int) ≤ (k : Int)) = false := decide_eq_false (by omega)
          have e2' : decide (n ≤ k) = false := decide_eq_false h2
          have hkn : k < s.staff.length := by have := HN.out; omega
          obtain ⟨ab, ao, rfl, fa⟩ := HIW.out.fam (by omega)
          have hc := fa k hkn
          obtain ⟨z, hz⟩ : ∃ z, z = ig s.staff k := ⟨_, rfl⟩
          rw [← hz] at hc
          have HZ := Lib.hid hz
          have n2 : (k : Int) < (n : Int) := by omega
          clear fa hz
          by_cases h3 : z < y
          · have e3 : decide (z < y) = true := decide_eq_true h3
            have HE := Lib.hid (fitsB_no (x := x) (s := s) fun h => by
              have := (h.1 k hlt (by rw [← HY.out]; exact h1)).2
              rw [← HY.out, ← HZ.out] at this
              omega)
            clear h1 h2 h3
            go_wp2_with fail
            go_ret
            exact retB (vbool HE.out.symm) HBX.out
          · have e3 : decide (z < y) = false := decide_eq_false h3
            have HK := Lib.hid (show k < s.staff.length ∧ ig x.p k ≤ ig s.staff k from ⟨hkn, by rw [← HY.out, ← HZ.out]; omega⟩)
            clear h1 h2 h3
            go_wp2_with fail
            go_roundg (8 - k)
            case measure => omega
            case rel => exact ⟨k + 1, by omega, by omega, by go_num, rfl, fun j hj h0 => by
              rcases Nat.lt_succ_iff_lt_or_eq.1 hj with h | h
              · exact HALL.out j h h0
              · subst h; exact HK.out⟩
      · have e1 : decide (0 < y) = false := decide_eq_false h1
        have HNP := Lib.hid (show ¬ 0 < ig x.p k from by rw [← HY.out]; exact h1)
        clear h1
        go_wp2_with fail
        go_roundg (8 - k)
        case measure => omega
        case rel => exact ⟨k + 1, by omega, by omega, by go_num, rfl, fun j hj h0 => by
          rcases Nat.lt_succ_iff_lt_or_eq.1 hj with h | h
          · exact HALL.out j h h0
          · subst h; exact absurd h0 (by have := HNP.out; omega)⟩
    · obtain rfl : k = 8 := by omega
      by_cases h1 : xb ≤ bs
      · have e1 : decide (xb ≤ bs) = true := decide_eq_true h1
        have HE := Lib.hid (fitsB_yes (x := x) (s := s) ⟨HALL.out, by rw [← HB.out.1, ← HB.out.2]; exact h1⟩)
        clear h1
        go_wp2_with fail
        go_ret
        exact retB (vbool HE.out.symm) HBX.out
      · have e1 : decide (xb ≤ bs) = false := decide_eq_false h1
        have HE := Lib.hid (fitsB_no (x := x) (s := s) fun h => h1 (by rw [HB.out.1, HB.out.2]; exact h.2))
        clear h1
        go_wp2_with fail
        go_ret
        exact retB (vbool HE.out.symm) HBX.out
end Go.Proofs.Ytoblmecgnpoogaa

