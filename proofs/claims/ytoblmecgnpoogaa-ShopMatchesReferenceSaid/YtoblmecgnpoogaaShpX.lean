

/- The head of package shop's laws: the walk. -/
import Derived.Test.YtoblmecgnpoogaaShpV
import Derived.Test.YtoblmecgnpoogaaShpW
import Derived.Test.YtoblmecgnpoogaaShpG
namespace Go.Proofs.Ytoblmecgnpoogaa
open Go.RowKit

theorem ints3 (w : World) (x0 x1 x2 : Int) (t : TypeId) : Ints (w.alloc (Obj.cells #[.int .i64 x0, .int .i64 x1, .int .i64 x2] t)) (some ⟨w.heap.size, 0, none⟩) [x0, x1, x2] := by
  refine lt3 ?_ ?_ ?_ <;> exact ⟨_, 0, rfl, by simp [go_sem, ig]⟩
theorem ints1 (w : World) (x0 : Int) (t : TypeId) : Ints (w.alloc (Obj.cells #[.int .i64 x0] t)) (some ⟨w.heap.size, 0, none⟩) [x0] := by
  refine lt1 ?_ <;> exact ⟨_, 0, rfl, by simp [go_sem, ig]⟩
theorem tasks_ex (w : World) (t t' : TypeId) : Tasks ((w.alloc (Obj.cells #[.int .i64 0] t)).alloc (Obj.cells #[.int .i64 2, .int .i64 0, .bool true, .slice none 0 0, .int .i64 3, .int .i64 0, .bool false, .slice none 0 0, .int .i64 1, .int .i64 0, .bool true, .slice (some ⟨w.heap.size, 0, none⟩) 1 1] t')) (some ⟨w.heap.size + 1, 0, none⟩) exL := by
  refine lt3 ?_ ?_ ?_
  · exact ⟨_, 0, none, 0, rfl, by simp [go_sem, tg, exL], by simp [go_sem, tg, exL], by simp [go_sem, tg, exL], by simp [go_sem, tg, exL], Ints.nil _ _⟩
  · exact ⟨_, 0, none, 0, rfl, by simp [go_sem, tg, exL], by simp [go_sem, tg, exL], by simp [go_sem, tg, exL], by simp [go_sem, tg, exL], Ints.nil _ _⟩
  · refine ⟨_, 0, some ⟨w.heap.size, 0, none⟩, 1, rfl, by simp [go_sem, tg, exL], by simp [go_sem, tg, exL], by simp [go_sem, tg, exL], by simp [go_sem, tg, exL], ?_⟩
    exact lt1 ⟨_, 0, rfl, by simp [go_sem, tg, exL, ig]⟩
theorem exl_len : exL.length < 9223372036854775808 := by decide
theorem exl_aft : exL.length ≤ 40 → ∀ i, i < exL.length → (tg exL i).after.length < 9223372036854775808 := fun _ => lt3 (by decide) (by decide) (by decide)
/-- the contracts at the examples -/
theorem hplan1 (a : Option Addr) (w : World) (hT : Tasks w a exL) : Calls Try.prog 12 #[.slice a 3 3, .agg #[.slice (some ⟨w.heap.size, 0, none⟩) 1 1, .int .i64 1]] (w.alloc (.cells #[.int .i64 2] 3)) (RetIE [0, 0, 2] 0 (w.alloc (.cells #[.int .i64 2] 3))) := by
  refine Calls.mono (plan_any exL a 3 exS1 (some ⟨w.heap.size, 0, none⟩) 1 _ (hT.later ((Below.refl _ _).alloc (Nat.le_refl _) _)) exl_len exl_aft (ints1 w 2 _) (by decide)) ?_
  rintro e w' ⟨st, n, hp, hr⟩
  obtain ⟨rfl, rfl⟩ := plan1 hp
  exact hr
theorem hplan2 (a : Option Addr) (w : World) (hT : Tasks w a exL) : Calls Try.prog 12 #[.slice a 3 3, .agg #[.slice (some ⟨w.heap.size, 0, none⟩) 1 1, .int .i64 1]] (w.alloc (.cells #[.int .i64 1] 3)) (RetIE [0, 2, 5] 0 (w.alloc (.cells #[.int .i64 1] 3))) := by
  refine Calls.mono (plan_any exL a 3 exS2 (some ⟨w.heap.size, 0, none⟩) 1 _ (hT.later ((Below.refl _ _).alloc (Nat.le_refl _) _)) exl_len exl_aft (ints1 w 1 _) (by decide)) ?_
  rintro e w' ⟨st, n, hp, hr⟩
  obtain ⟨rfl, rfl⟩ := plan2 hp
  exact hr
theorem hplan3 (a : Option Addr) (w : World) (hT : Tasks w a exL) : Calls Try.prog 12 #[.slice a 3 3, .agg #[.slice (some ⟨w.heap.size, 0, none⟩) 1 1, .int .i64 0]] (w.alloc (.cells #[.int .i64 2] 3)) (RetIE [] 2 (w.alloc (.cells #[.int .i64 2] 3))) := by
  refine Calls.mono (plan_any exL a 3 exS3 (some ⟨w.heap.size, 0, none⟩) 1 _ (hT.later ((Below.refl _ _).alloc (Nat.le_refl _) _)) exl_len exl_aft (ints1 w 2 _) (by decide)) ?_
  rintro e w' ⟨st, n, hp, hr⟩
  obtain ⟨rfl, rfl⟩ := plan3 hp
  exact hr
theorem hlen1 (a ia : Option Addr) (ic : Nat) (w : World) (hT : Tasks w a exL) (hI : Ints w ia [0, 0, 2]) : Calls Try.prog 14 #[.slice a 3 3, .slice ia 3 ic] w (RetNE 3 0 w) := by
  have := length_any exL a 3 [0, 0, 2] ia ic w hT exl_len exl_aft hI (by decide)
  rw [ln1.1, ln1.2] at this
  exact this
theorem hlen2 (a ia : Option Addr) (ic : Nat) (w : World) (hT : Tasks w a exL) (hI : Ints w ia [0, 2, 5]) : Calls Try.prog 14 #[.slice a 3 3, .slice ia 3 ic] w (RetNE 6 0 w) := by
  have := length_any exL a 3 [0, 2, 5] ia ic w hT exl_len exl_aft hI (by decide)
  rw [ln2.1, ln2.2] at this
  exact this
theorem hchk1 (a ia : Option Addr) (ic : Nat) (w : World) (hT : Tasks w a exL) (hI : Ints w ia [0, 2, 5]) : Calls Try.prog 17 #[.slice a 3 3, .agg #[.slice (some ⟨w.heap.size, 0, none⟩) 1 1, .int .i64 1], .slice ia 3 ic] (w.alloc (.cells #[.int .i64 1] 3)) (RetB (.bool true) (w.alloc (.cells #[.int .i64 1] 3))) := by
  have hb : Below w.heap.size w (w.alloc (.cells #[.int .i64 1] 3)) := (Below.refl _ _).alloc (Nat.le_refl _) _
  have := check_any exL a 3 exS2 (some ⟨w.heap.size, 0, none⟩) 1 [0, 2, 5] ia ic _ (hT.later hb) exl_len exl_aft (ints1 w 1 _) (by decide) (hI.later hb) (by decide)
  rw [chk1] at this
  exact this
theorem hchk2 (a ia : Option Addr) (ic : Nat) (w : World) (hT : Tasks w a exL) (hI : Ints w ia [0, 0, 2]) : Calls Try.prog 17 #[.slice a 3 3, .agg #[.slice (some ⟨w.heap.size, 0, none⟩) 1 1, .int .i64 1], .slice ia 3 ic] (w.alloc (.cells #[.int .i64 1] 3)) (RetB (.bool false) (w.alloc (.cells #[.int .i64 1] 3))) := by
  have hb : Below w.heap.size w (w.alloc (.cells #[.int .i64 1] 3)) := (Below.refl _ _).alloc (Nat.le_refl _) _
  have := check_any exL a 3 exS2 (some ⟨w.heap.size, 0, none⟩) 1 [0, 0, 2] ia ic _ (hT.later hb) exl_len exl_aft (ints1 w 1 _) (by decide) (hI.later hb) (by decide)
  rw [chk2] at this
  exact this
theorem hints (x : List Int) (x0 x1 x2 : Int) (hx : x = [x0, x1, x2]) (ia : Option Addr) (ic : Nat) (w : World) (hI : Ints w ia x) : Calls Try.prog 16 #[.slice ia 3 ic, .slice (some ⟨w.heap.size, 0, none⟩) 3 3] (w.alloc (.cells #[.int .i64 x0, .int .i64 x1, .int .i64 x2] 3)) (RetB (.bool true) (w.alloc (.cells #[.int .i64 x0, .int .i64 x1, .int .i64 x2] 3))) := by
  subst hx
  have hb : Below w.heap.size w (w.alloc (.cells #[.int .i64 x0, .int .i64 x1, .int .i64 x2] 3)) := (Below.refl _ _).alloc (Nat.le_refl _) _
  exact rints_any [x0, x1, x2] [x0, x1, x2] true ia _ ic 3 _ (hI.later hb) (ints3 w x0 x1 x2 _) (by simp) (by simp) (by simp)
set_option maxRecDepth 100000 in
set_option maxHeartbeats 4000000 in
theorem head_any (w : World) : Calls Try.prog 10 #[] w (RetB (.bool true) w) := by
  go_enter Try.func10, Try.ntmps10
  go_upto_region 2 with fail
  obtain ⟨w1, L, hL, hT1, hb1, hw1⟩ : ∃ w1 L, L = w.heap.size + 1 ∧ Tasks w1 (some ⟨L, 0, none⟩) exL ∧ Below w.heap.size w w1 ∧ w1 = (w.alloc (.cells #[.int .i64 0] 3)).alloc (.cells #[.int .i64 2, .int .i64 0, .bool true, .slice none 0 0, .int .i64 3, .int .i64 0, .bool false, .slice none 0 0, .int .i64 1, .int .i64 0, .bool true, .slice (some ⟨w.heap.size, 0, none⟩) 1 1] 38) := ⟨_, _, rfl, tasks_ex w _ _, ((Below.refl _ _).alloc (Nat.le_refl _) _).alloc (by simp) _, rfl⟩
  rw [← hw1, ← hL]
  have HT1 := Lib.hid hT1
  have HB1 := Lib.hid hb1
  clear hw1 hL hT1 hb1
  go_wp2_with fail
  refine Calls.mono (hplan1 _ w1 HT1.out) ?_
  rintro e w2 ⟨oa, ob, rfl, hi, hb⟩
  have hb := (show Below w1.heap.size w1 (w1.alloc (.cells #[.int .i64 2] 3)) from (Below.refl _ _).alloc (Nat.le_refl _) _).trans (hb.mono (by simp))
  have HB2 := Lib.hid (HB1.out.trans (hb.mono HB1.out.size))
  have HT2 := Lib.hid (HT1.out.later hb)
  have HO2 := Lib.hid hi
  clear hb HB1 HT1 hi
  go_wp2_with fail
  refine Calls.mono (hplan2 _ w2 HT2.out) ?_
  rintro e w3 ⟨pa, pb, rfl, hi, hb⟩
  have hb := (show Below w2.heap.size w2 (w2.alloc (.cells #[.int .i64 1] 3)) from (Below.refl _ _).alloc (Nat.le_refl _) _).trans (hb.mono (by simp))
  have HB3 := Lib.hid (HB2.out.trans (hb.mono HB2.out.size))
  have HT3 := Lib.hid (HT2.out.later hb)
  have HO3 := Lib.hid (HO2.out.later hb)
  have HP3 := Lib.hid hi
  clear hb HB2 HT2 hi HO2
  go_wp2_with fail
  refine Calls.mono (hplan3 _ w3 HT3.out) ?_
  rintro e w4 ⟨qa, qb, rfl, hi, hb⟩
  have hb := (show Below w3.heap.size w3 (w3.alloc (.cells #[.int .i64 2] 3)) from (Below.refl _ _).alloc (Nat.le_refl _) _).trans (hb.mono (by simp))
  have HB4 := Lib.hid (HB3.out.trans (hb.mono HB3.out.size))
  have HT4 := Lib.hid (HT3.out.later hb)
  have HO4 := Lib.hid (HO3.out.later hb)
  have HP4 := Lib.hid (HP3.out.later hb)
  clear hb HB3 HT3 hi HO3 HP3
  go_wp2_with fail
  refine Calls.mono (hlen1 _ _ _ w4 HT4.out HO4.out) ?_
  rintro e w5 ⟨rfl, hb⟩
  have HB5 := Lib.hid (HB4.out.trans (hb.mono HB4.out.size))
  have HT5 := Lib.hid (HT4.out.later hb)
  have HO5 := Lib.hid (HO4.out.later hb)
  have HP5 := Lib.hid (HP4.out.later hb)
  clear hb HB4 HT4 HO4 HP4
  go_wp2_with fail
  refine Calls.mono (hlen2 _ _ _ w5 HT5.out HP5.out) ?_
  rintro e w6 ⟨rfl, hb⟩
  have HB6 := Lib.hid (HB5.out.trans (hb.mono HB5.out.size))
  have HT6 := Lib.hid (HT5.out.later hb)
  have HO6 := Lib.hid (HO5.out.later hb)
  have HP6 := Lib.hid (HP5.out.later hb)
  clear hb HB5 HT5 HO5 HP5
  go_wp2_with fail
  refine Calls.mono (hints _ 0 0 2 rfl _ _ w6 HO6.out) ?_
  rintro e w7 ⟨rfl, hb⟩
  have hb := (show Below w6.heap.size w6 (w6.alloc (.cells #[.int .i64 0, .int .i64 0, .int .i64 2] 3)) from (Below.refl _ _).alloc (Nat.le_refl _) _).trans (hb.mono (by simp))
  have HB7 := Lib.hid (HB6.out.trans (hb.mono HB6.out.size))
  have HT7 := Lib.hid (HT6.out.later hb)
  have HO7 := Lib.hid (HO6.out.later hb)
  have HP7 := Lib.hid (HP6.out.later hb)
  clear hb HB6 HT6 HO6 HP6
  go_wp2_with fail
  refine Calls.mono (hints _ 0 2 5 rfl _ _ w7 HP7.out) ?_
  rintro e w8 ⟨rfl, hb⟩
  have hb := (show Below w7.heap.size w7 (w7.alloc (.cells #[.int .i64 0, .int .i64 2, .int .i64 5] 3)) from (Below.refl _ _).alloc (Nat.le_refl _) _).trans (hb.mono (by simp))
  have HB8 := Lib.hid (HB7.out.trans (hb.mono HB7.out.size))
  have HT8 := Lib.hid (HT7.out.later hb)
  have HO8 := Lib.hid (HO7.out.later hb)
  have HP8 := Lib.hid (HP7.out.later hb)
  clear hb HB7 HT7 HO7 HP7
  go_wp2_with fail
  refine Calls.mono (hchk1 _ _ _ w8 HT8.out HP8.out) ?_
  rintro e w9 ⟨rfl, hb⟩
  have hb := (show Below w8.heap.size w8 (w8.alloc (.cells #[.int .i64 1] 3)) from (Below.refl _ _).alloc (Nat.le_refl _) _).trans (hb.mono (by simp))
  have HB9 := Lib.hid (HB8.out.trans (hb.mono HB8.out.size))
  have HT9 := Lib.hid (HT8.out.later hb)
  have HO9 := Lib.hid (HO8.out.later hb)
  have HP9 := Lib.hid (HP8.out.later hb)
  clear hb HB8 HT8 HO8 HP8
  go_wp2_with fail
  refine Calls.mono (hchk2 _ _ _ w9 HT9.out HO9.out) ?_
  rintro e w10 ⟨rfl, hb⟩
  have hb := (show Below w9.heap.size w9 (w9.alloc (.cells #[.int .i64 1] 3)) from (Below.refl _ _).alloc (Nat.le_refl _) _).trans (hb.mono (by simp))
  have HB10 := Lib.hid (HB9.out.trans (hb.mono HB9.out.size))
  have HT10 := Lib.hid (HT9.out.later hb)
  have HO10 := Lib.hid (HO9.out.later hb)
  have HP10 := Lib.hid (HP9.out.later hb)
  clear hb HB9 HT9 HO9 HP9
  go_wp2_with fail
  go_ret
  exact retB rfl HB10.out
end Go.Proofs.Ytoblmecgnpoogaa
