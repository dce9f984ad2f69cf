


/- Package game: the comparison of two positions. -/
import Derived.Test.YtgccankekflchaaGamN
import Derived.Shelf.SlSortCmp.InsertionK
namespace Go.Proofs.Ytgccankekflchaa
open Go.RowKit Go.Sort

set_option maxRecDepth 100000 in
set_option maxHeartbeats 2000000 in
theorem compare_any (l m : List Int) (a b : Option Addr) (c d : Nat) (w : World) (hL : Ints w a l) (hM : Ints w b m) (hl : l.length ≤ 1000) (hm : m.length ≤ 1000) :
    Calls Try.prog 29 #[.slice a l.length c, .slice b m.length d] w (RetS (.int .i64 (cmpL l m)) w) := by
  obtain ⟨r, hr⟩ : ∃ r, r = cmpL l m := ⟨_, rfl⟩
  obtain ⟨n, hn⟩ : ∃ n, n = l.length := ⟨_, rfl⟩
  obtain ⟨k, hk⟩ : ∃ k, k = m.length := ⟨_, rfl⟩
  have HR := Lib.hid hr
  have HN := Lib.hid hn
  have HK := Lib.hid hk
  have HL := Lib.hid hL
  have HM := Lib.hid hM
  rw [← hr, ← hn, ← hk]
  rw [← hn] at hl
  rw [← hk] at hm
  clear hr hn hk hL hM
  go_enter Try.func29, Try.ntmps29
  go_wp2_with fail
  go_loopg [11] (n + 1) (fun gk v11 wr => ∃ i : Nat, i ≤ n ∧ gk + i = n + 1 ∧ v11 = .int .i64 i ∧ w = wr ∧ r = cmpL (l.drop i) (m.drop i))
  case atStart => exact ⟨0, by omega, by omega, rfl, rfl, HR.out⟩
  case round =>
    obtain ⟨i, hi, hgi, rfl, rfl, he⟩ := hrel
    have HE := Lib.hid he
    clear he
    by_cases hlt : i < n
    · obtain ⟨ab, aoff, rfl, fa⟩ := HL.out.fam (by have := HN.out; omega)
      have ci := fa i (by have := HN.out; omega)
      obtain ⟨x, hx⟩ : ∃ x, x = ig l i := ⟨_, rfl⟩
      rw [← hx] at ci
      have HX := Lib.hid hx
      have n1 : (i : Int) < (n : Int) := by omega
      have n0 : (0 : Int) ≤ (i : Int) := by omega
      clear fa hx
      by_cases hk2 : i < k
      · obtain ⟨bb, boff, rfl, fb⟩ := HM.out.fam (by have := HK.out; omega)
        have di := fb i (by have := HK.out; omega)
        obtain ⟨y, hy⟩ : ∃ y, y = ig m i := ⟨_, rfl⟩
        rw [← hy] at di
        have HY := Lib.hid hy
        have m1 : (i : Int) < (k : Int) := by omega
        have m2 : ¬ (k : Int) ≤ (i : Int) := by omega
        clear fb hy
        have HST := Lib.hid (show r = if cmpI x y = 0 then cmpL (l.drop (i + 1)) (m.drop (i + 1)) else cmpI x y from by rw [HE.out, HX.out, HY.out]; exact cmpL_step (by have := HN.out; omega) (by have := HK.out; omega))
        obtain ⟨z, hz⟩ : ∃ z, z = cmpI x y := ⟨_, rfl⟩
        have HZ := Lib.hid hz
        clear hz
        by_cases hz0 : z = 0
        · have HS2 := Lib.hid (HST.out.trans (if_pos (HZ.out.symm.trans hz0)))
          have e0 : (z == 0) = true := by simpa using hz0
          have HZ0 := Lib.hid hz0
          clear hz0
          go_wp2_with (refine Calls.mono (cmp_any _ _ _) ?_; rintro e w' ⟨rfl, rfl⟩; rw [← HZ.out])
          go_roundg (gk - 1)
          case measure => omega
          case rel => exact ⟨i + 1, by omega, by omega, by go_num, rfl, HS2.out⟩
        · have HS2 := Lib.hid (show r = z from by rw [HST.out, if_neg (fun e => hz0 (HZ.out.trans e)), HZ.out])
          have e0 : (z == 0) = false := by simpa using hz0
          clear hz0
          go_wp2_with (refine Calls.mono (cmp_any _ _ _) ?_; rintro e w' ⟨rfl, rfl⟩; rw [← HZ.out])
          go_ret
          exact retS (vint HS2.out.symm)
      · have HS2 := Lib.hid (HE.out.trans (cmpL_over (by have := HN.out; omega) (by have := HK.out; omega)))
        have m2 : (k : Int) ≤ (i : Int) := by omega
        go_wp2_with fail
        go_ret
        exact retS (vint HS2.out.symm)
    · obtain rfl : i = n := by omega
      by_cases hk2 : i < k
      · have HS2 := Lib.hid (show r = -1 from by rw [HE.out, HN.out]; exact cmpL_end (by have := HN.out; have := HK.out; omega))
        have m2 : (i : Int) < (k : Int) := by omega
        go_wp2_with fail
        go_ret
        exact retS (vint HS2.out.symm)
      · have HS2 := Lib.hid (show r = 0 from by rw [HE.out, HN.out]; exact cmpL_both (by have := HN.out; have := HK.out; omega))
        have m2 : ¬ (i : Int) < (k : Int) := by omega
        go_wp2_with fail
        go_ret
        exact retS (vint HS2.out.symm)
def bitL (l : List Bool) : List Int := l.map bitI
theorem bitL_len (l : List Bool) : (bitL l).length = l.length := List.length_map _
theorem bitL_ig {l : List Bool} {i : Nat} (h : i < l.length) : ig (bitL l) i = bitI (bg l i) := by
  rw [ig_lt (by rw [bitL_len]; exact h), bg_lt h]
  simp [bitL]
set_option maxRecDepth 100000 in
set_option maxHeartbeats 2000000 in
theorem compareB_any (l m : List Bool) (a b : Option Addr) (c d : Nat) (w : World) (hL : Bools w a l) (hM : Bools w b m) (hl : l.length ≤ 1000) (hm : m.length ≤ 1000) :
    Calls Try.prog 24 #[.slice a l.length c, .slice b m.length d, .func (.func 25) #[] #[]] w (RetS (.int .i64 (cmpL (bitL l) (bitL m))) w) := by
  obtain ⟨r, hr⟩ : ∃ r, r = cmpL (bitL l) (bitL m) := ⟨_, rfl⟩
  obtain ⟨n, hn⟩ : ∃ n, n = l.length := ⟨_, rfl⟩
  obtain ⟨k, hk⟩ : ∃ k, k = m.length := ⟨_, rfl⟩
  have HR := Lib.hid hr
  have HN := Lib.hid hn
  have HK := Lib.hid hk
  have HL := Lib.hid hL
  have HM := Lib.hid hM
  rw [← hr, ← hn, ← hk]
  rw [← hn] at hl
  rw [← hk] at hm
  clear hr hn hk hL hM
  go_enter Try.func24, Try.ntmps24
  go_wp2_with fail
  go_loopg [13] (n + 1) (fun gk v13 wr => ∃ i : Nat, i ≤ n ∧ gk + i = n + 1 ∧ v13 = .int .i64 i ∧ w = wr ∧ r = cmpL ((bitL l).drop i) ((bitL m).drop i))
  case atStart => exact ⟨0, by omega, by omega, rfl, rfl, HR.out⟩
  case round =>
    obtain ⟨i, hi, hgi, rfl, rfl, he⟩ := hrel
    have HE := Lib.hid he
    clear he
    by_cases hlt : i < n
    · obtain ⟨ab, aoff, rfl, fa⟩ := HL.out.fam (by have := HN.out; omega)
      have ci := fa i (by have := HN.out; omega)
      obtain ⟨x, hx⟩ : ∃ x, x = bg l i := ⟨_, rfl⟩
      rw [← hx] at ci
      have HX := Lib.hid hx
      have n1 : (i : Int) < (n : Int) := by omega
      have n0 : (0 : Int) ≤ (i : Int) := by omega
      clear fa hx
      by_cases hk2 : i < k
      · obtain ⟨bb, boff, rfl, fb⟩ := HM.out.fam (by have := HK.out; omega)
        have di := fb i (by have := HK.out; omega)
        obtain ⟨y, hy⟩ : ∃ y, y = bg m i := ⟨_, rfl⟩
        rw [← hy] at di
        have HY := Lib.hid hy
        have m1 : (i : Int) < (k : Int) := by omega
        have m2 : ¬ (k : Int) ≤ (i : Int) := by omega
        clear fb hy
        have HST := Lib.hid (show r = if cmpI (bitI x) (bitI y) = 0 then cmpL ((bitL l).drop (i + 1)) ((bitL m).drop (i + 1)) else cmpI (bitI x) (bitI y) from by
          rw [HE.out, HX.out, HY.out, ← bitL_ig (by have := HN.out; omega), ← bitL_ig (by have := HK.out; omega)]
          exact cmpL_step (by rw [bitL_len]; have := HN.out; omega) (by rw [bitL_len]; have := HK.out; omega))
        obtain ⟨z, hz⟩ : ∃ z, z = cmpI (bitI x) (bitI y) := ⟨_, rfl⟩
        have HZ := Lib.hid hz
        clear hz
        by_cases hz0 : z = 0
        · have HS2 := Lib.hid (HST.out.trans (if_pos (HZ.out.symm.trans hz0)))
          have e0 : (z == 0) = true := by simpa using hz0
          have HZ0 := Lib.hid hz0
          clear hz0
          go_wp2_with (refine Calls.mono (cmpB_any _ _ _) ?_; rintro e w' ⟨rfl, rfl⟩; rw [← HZ.out])
          go_roundg (gk - 1)
          case measure => omega
          case rel => exact ⟨i + 1, by omega, by omega, by go_num, rfl, HS2.out⟩
        · have HS2 := Lib.hid (show r = z from by rw [HST.out, if_neg (fun e => hz0 (HZ.out.trans e)), HZ.out])
          have e0 : (z == 0) = false := by simpa using hz0
          clear hz0
          go_wp2_with (refine Calls.mono (cmpB_any _ _ _) ?_; rintro e w' ⟨rfl, rfl⟩; rw [← HZ.out])
          go_ret
          exact retS (vint HS2.out.symm)
      · have HS2 := Lib.hid (HE.out.trans (cmpL_over (by rw [bitL_len]; have := HN.out; omega) (by rw [bitL_len]; have := HK.out; omega)))
        have m2 : (k : Int) ≤ (i : Int) := by omega
        go_wp2_with fail
        go_ret
        exact retS (vint HS2.out.symm)
    · obtain rfl : i = n := by omega
      by_cases hk2 : i < k
      · have HS2 := Lib.hid (show r = -1 from by rw [HE.out, HN.out, ← bitL_len l]; exact cmpL_end (by rw [bitL_len, bitL_len]; have := HN.out; have := HK.out; omega))
        have m2 : (i : Int) < (k : Int) := by omega
        go_wp2_with fail
        go_ret
        exact retS (vint HS2.out.symm)
      · have HS2 := Lib.hid (show r = 0 from by rw [HE.out, HN.out, ← bitL_len l]; exact cmpL_both (by rw [bitL_len, bitL_len]; have := HN.out; have := HK.out; omega))
        have m2 : ¬ (i : Int) < (k : Int) := by omega
        go_wp2_with fail
        go_ret
        exact retS (vint HS2.out.symm)
def orL : List Int → Int
  | [] => 0
  | a :: l => or0 a (orL l)
theorem orL_step {l : List Int} {i : Nat} (h : i < l.length) : orL (l.drop i) = or0 (ig l i) (orL (l.drop (i + 1))) := by
  rw [List.drop_eq_getElem_cons h, ig_lt h]
  rfl
theorem or0_zero (d : Int) : or0 d 0 = d := by unfold or0; split <;> omega
set_option maxRecDepth 100000 in
theorem or_any (l : List Int) (a : Option Addr) (c : Nat) (w : World) (hL : Ints w a l) (hl : l.length ≤ 1000) : Calls Try.prog 28 #[.slice a l.length c] w (RetS (.int .i64 (orL l)) w) := by
  obtain ⟨r, hr⟩ : ∃ r, r = orL l := ⟨_, rfl⟩
  obtain ⟨n, hn⟩ : ∃ n, n = l.length := ⟨_, rfl⟩
  have HR := Lib.hid hr
  have HN := Lib.hid hn
  have HL := Lib.hid hL
  rw [← hr, ← hn]
  rw [← hn] at hl
  clear hr hn hL
  go_enter Try.func28, Try.ntmps28
  go_wp2_with fail
  go_loopg [8] (n + 1) (fun gk v8 wr => ∃ i : Nat, i ≤ n ∧ gk + i = n + 1 ∧ v8 = .int .i64 i ∧ w = wr ∧ r = orL (l.drop i))
  case atStart => exact ⟨0, by omega, by omega, rfl, rfl, HR.out⟩
  case round =>
    obtain ⟨i, hi, hgi, rfl, rfl, he⟩ := hrel
    have HE := Lib.hid he
    clear he
    by_cases hlt : i < n
    · obtain ⟨ab, aoff, rfl, fa⟩ := HL.out.fam (by have := HN.out; omega)
      have ci := fa i (by have := HN.out; omega)
      obtain ⟨x, hx⟩ : ∃ x, x = ig l i := ⟨_, rfl⟩
      rw [← hx] at ci
      have n1 : (i : Int) < (n : Int) := by omega
      have n0 : (0 : Int) ≤ (i : Int) := by omega
      have HST := Lib.hid (show r = or0 x (orL (l.drop (i + 1))) from by rw [HE.out, hx]; exact orL_step (by have := HN.out; omega))
      clear fa hx
      by_cases hx0 : x = 0
      · have HS2 := Lib.hid (HST.out.trans (if_pos hx0))
        have e0 : (x == 0) = true := by simpa using hx0
        clear hx0
        go_wp2_with fail
        go_roundg (gk - 1)
        case measure => omega
        case rel => exact ⟨i + 1, by omega, by omega, by go_num, rfl, HS2.out⟩
      · have HS2 := Lib.hid (HST.out.trans (if_neg hx0))
        have e0 : (x == 0) = false := by simpa using hx0
        clear hx0
        go_wp2_with fail
        go_ret
        exact retS (vint HS2.out.symm)
    · obtain rfl : i = n := by omega
      have HS2 := Lib.hid (show r = 0 from by rw [HE.out, HN.out, List.drop_length]; rfl)
      go_wp2_with fail
      go_ret
      exact retS (vint HS2.out.symm)
end Go.Proofs.Ytgccankekflchaa

