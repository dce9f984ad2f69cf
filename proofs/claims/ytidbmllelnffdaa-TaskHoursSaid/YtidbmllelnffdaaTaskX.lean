
/- The head of this package's laws: the walk. -/
import Derived.Test.YtidbmllelnffdaaTaskW
namespace Go.Proofs.Ytidbmllelnffdaa
open Go.RowKit

theorem ints4 (w : World) (x0 x1 x2 x3 : Int) (t : TypeId) : Ints (w.alloc (Obj.cells #[.int .i64 x0, .int .i64 x1, .int .i64 x2, .int .i64 x3] t)) (some ⟨w.heap.size, 0, none⟩) [x0, x1, x2, x3] := by
  refine lt4 ?_ ?_ ?_ ?_ <;> exact ⟨_, 0, rfl, by simp [go_sem, ig]⟩
theorem ints2 (w : World) (x0 x1 : Int) (t : TypeId) : Ints (w.alloc (Obj.cells #[.int .i64 x0, .int .i64 x1] t)) (some ⟨w.heap.size, 0, none⟩) [x0, x1] := by
  refine lt2 ?_ ?_ <;> exact ⟨_, 0, rfl, by simp [go_sem, ig]⟩
theorem bools4 (w : World) (x0 x1 x2 x3 : Bool) (t : TypeId) : Bools (w.alloc (Obj.cells #[.bool x0, .bool x1, .bool x2, .bool x3] t)) (some ⟨w.heap.size, 0, none⟩) [x0, x1, x2, x3] := by
  refine lt4 ?_ ?_ ?_ ?_ <;> exact ⟨_, 0, rfl, by simp [go_sem, bg]⟩
theorem tasksC (w : World) (t t' : TypeId) : Tasks ((w.alloc (Obj.cells #[.int .i64 0] t)).alloc (Obj.cells #[.int .i64 1, .int .i64 0, .bool false, .slice (some ⟨w.heap.size, 0, none⟩) 1 1] t')) (some ⟨w.heap.size + 1, 0, none⟩) exC := by
  refine lt1 ⟨_, 0, some ⟨w.heap.size, 0, none⟩, 1, rfl, by simp [go_sem, tg, exC], by simp [go_sem, tg, exC], by simp [go_sem, tg, exC], by simp [go_sem, tg, exC], ?_⟩
  exact lt1 ⟨_, 0, rfl, by simp [go_sem, tg, exC, ig]⟩

set_option maxRecDepth 100000 in
set_option maxHeartbeats 4000000 in
theorem head_any (w : World) : Calls Try.prog 9 #[] w (RetB (.bool true) w) := by
  go_enter Try.func9, Try.ntmps9
  go_wp2_with fail
  refine Calls.mono (example_at _) ?_
  rintro e w1 ⟨a, cap, rfl, hT1, hb1⟩
  have hs1 := hb1.size
  go_wp2_with fail
  have c2 := order_at exL 0 a cap w1 hT1 ex_valid ex_ordE
  rw [ex_ordL] at c2
  refine Calls.mono c2 ?_
  clear c2
  rintro e w2 ⟨oa, oc, rfl, hI2, hb2⟩
  have hs2 := hb2.size
  have hT2 := hT1.later hb2
  go_wp2_with fail
  have c3 := (critical_yes exL a cap w2 hT2 (by decide) (fun _ => lt4 (by decide) (by decide) (by decide) (by decide)) ex_valid)
  rw [ex_crit, ex_ordE] at c3
  refine Calls.mono c3 ?_
  clear c3
  rintro e w3 ⟨rfl, hb3⟩
  have hs3 := hb3.size
  have hT3 := hT2.later hb3
  have hI3 := hI2.later hb3
  have hk3 : Below w.heap.size w w3 := (by repeat (first | exact Below.refl _ _ | assumption | refine Below.drew ?_ | refine below_drewN ?_ _ | refine Below.alloc ?_ (by first | omega | (simp; done) | (simp; omega)) _ | refine Below.setCell ?_ (by first | omega | (simp; done) | (simp; omega)) _ | refine Below.trans ?_ (Below.mono (by assumption) (by first | omega | (simp; done) | (simp; omega)))))
  clear hb1 hb2 hb3 hT1 hT2 hI2
  go_wp2_with fail
  have c4 := undo_ok exL [true, true, true, true] 0 a (some ⟨w3.heap.size, 0, none⟩) cap 4 _ (hT3.later (by repeat (first | exact Below.refl _ _ | assumption | refine Below.drew ?_ | refine below_drewN ?_ _ | refine Below.alloc ?_ (by first | omega | (simp; done) | (simp; omega)) _ | refine Below.setCell ?_ (by first | omega | (simp; done) | (simp; omega)) _ | refine Below.trans ?_ (Below.mono (by assumption) (by first | omega | (simp; done) | (simp; omega)))))) (bools4 w3 true true true true 4) ex_valid rfl (by rw [ex_order]; decide) (by decide) ex_clo rfl
  rw [ex_und] at c4
  refine Calls.mono c4 ?_
  clear c4
  rintro e w4 ⟨ua, uc, rfl, hU4, hb4⟩
  have hs4 := hb4.size
  simp at hs4
  have hT4 : Tasks w4 a exL := hT3.later (by repeat (first | exact Below.refl _ _ | assumption | refine Below.drew ?_ | refine below_drewN ?_ _ | refine Below.alloc ?_ (by first | omega | (simp; done) | (simp; omega)) _ | refine Below.setCell ?_ (by first | omega | (simp; done) | (simp; omega)) _ | refine Below.trans ?_ (Below.mono (by assumption) (by first | omega | (simp; done) | (simp; omega)))))
  have hI4 : Ints w4 oa [0, 1, 2, 3] := hI3.later (by repeat (first | exact Below.refl _ _ | assumption | refine Below.drew ?_ | refine below_drewN ?_ _ | refine Below.alloc ?_ (by first | omega | (simp; done) | (simp; omega)) _ | refine Below.setCell ?_ (by first | omega | (simp; done) | (simp; omega)) _ | refine Below.trans ?_ (Below.mono (by assumption) (by first | omega | (simp; done) | (simp; omega)))))
  have hk4 : Below w.heap.size w w4 := (by repeat (first | exact Below.refl _ _ | assumption | refine Below.drew ?_ | refine below_drewN ?_ _ | refine Below.alloc ?_ (by first | omega | (simp; done) | (simp; omega)) _ | refine Below.setCell ?_ (by first | omega | (simp; done) | (simp; omega)) _ | refine Below.trans ?_ (Below.mono (by assumption) (by first | omega | (simp; done) | (simp; omega)))))
  clear hb4 hT3 hI3
  go_wp2_with fail
  have c5 := order_at exC 24 (some ⟨w4.heap.size + 1, 0, none⟩) 1 _ (tasksC w4 3 41) exc_valid exc_ordE
  refine Calls.mono c5 ?_
  clear c5
  rintro e w5 ⟨oa5, oc5, rfl, hI5, hb5⟩
  have hs5 := hb5.size
  simp at hs5
  have hT5 : Tasks w5 a exL := hT4.later (by repeat (first | exact Below.refl _ _ | assumption | refine Below.drew ?_ | refine below_drewN ?_ _ | refine Below.alloc ?_ (by first | omega | (simp; done) | (simp; omega)) _ | refine Below.setCell ?_ (by first | omega | (simp; done) | (simp; omega)) _ | refine Below.trans ?_ (Below.mono (by assumption) (by first | omega | (simp; done) | (simp; omega)))))
  have hI5 : Ints w5 oa [0, 1, 2, 3] := hI4.later (by repeat (first | exact Below.refl _ _ | assumption | refine Below.drew ?_ | refine below_drewN ?_ _ | refine Below.alloc ?_ (by first | omega | (simp; done) | (simp; omega)) _ | refine Below.setCell ?_ (by first | omega | (simp; done) | (simp; omega)) _ | refine Below.trans ?_ (Below.mono (by assumption) (by first | omega | (simp; done) | (simp; omega)))))
  have hU5 : Bools w5 ua _ := hU4.later (by repeat (first | exact Below.refl _ _ | assumption | refine Below.drew ?_ | refine below_drewN ?_ _ | refine Below.alloc ?_ (by first | omega | (simp; done) | (simp; omega)) _ | refine Below.setCell ?_ (by first | omega | (simp; done) | (simp; omega)) _ | refine Below.trans ?_ (Below.mono (by assumption) (by first | omega | (simp; done) | (simp; omega)))))
  have hk5 : Below w.heap.size w w5 := (by repeat (first | exact Below.refl _ _ | assumption | refine Below.drew ?_ | refine below_drewN ?_ _ | refine Below.alloc ?_ (by first | omega | (simp; done) | (simp; omega)) _ | refine Below.setCell ?_ (by first | omega | (simp; done) | (simp; omega)) _ | refine Below.trans ?_ (Below.mono (by assumption) (by first | omega | (simp; done) | (simp; omega)))))
  clear hb5 hT4 hI4 hU4
  go_wp2_with fail
  refine Calls.mono (sameInts_any [0, 1, 2, 3] [0, 1, 2, 3] true oa (some ⟨w5.heap.size, 0, none⟩) oc 4 _ (hI5.later (by repeat (first | exact Below.refl _ _ | assumption | refine Below.drew ?_ | refine below_drewN ?_ _ | refine Below.alloc ?_ (by first | omega | (simp; done) | (simp; omega)) _ | refine Below.setCell ?_ (by first | omega | (simp; done) | (simp; omega)) _ | refine Below.trans ?_ (Below.mono (by assumption) (by first | omega | (simp; done) | (simp; omega)))))) (ints4 w5 0 1 2 3 3) (by decide) (by decide) (by simp)) ?_
  rintro e w6 ⟨rfl, hb6⟩
  have hs6 := hb6.size
  simp at hs6
  have hT6 : Tasks w6 a exL := hT5.later (by repeat (first | exact Below.refl _ _ | assumption | refine Below.drew ?_ | refine below_drewN ?_ _ | refine Below.alloc ?_ (by first | omega | (simp; done) | (simp; omega)) _ | refine Below.setCell ?_ (by first | omega | (simp; done) | (simp; omega)) _ | refine Below.trans ?_ (Below.mono (by assumption) (by first | omega | (simp; done) | (simp; omega)))))
  have hU6 : Bools w6 ua _ := hU5.later (by repeat (first | exact Below.refl _ _ | assumption | refine Below.drew ?_ | refine below_drewN ?_ _ | refine Below.alloc ?_ (by first | omega | (simp; done) | (simp; omega)) _ | refine Below.setCell ?_ (by first | omega | (simp; done) | (simp; omega)) _ | refine Below.trans ?_ (Below.mono (by assumption) (by first | omega | (simp; done) | (simp; omega)))))
  have hk6 : Below w.heap.size w w6 := (by repeat (first | exact Below.refl _ _ | assumption | refine Below.drew ?_ | refine below_drewN ?_ _ | refine Below.alloc ?_ (by first | omega | (simp; done) | (simp; omega)) _ | refine Below.setCell ?_ (by first | omega | (simp; done) | (simp; omega)) _ | refine Below.trans ?_ (Below.mono (by assumption) (by first | omega | (simp; done) | (simp; omega)))))
  clear hb6 hT5 hI5 hU5
  go_wp2_with fail
  have c7 := ready_yes exL [true, false, false, false] a (some ⟨w6.heap.size, 0, none⟩) cap 4 _ (hT6.later (by repeat (first | exact Below.refl _ _ | assumption | refine Below.drew ?_ | refine below_drewN ?_ _ | refine Below.alloc ?_ (by first | omega | (simp; done) | (simp; omega)) _ | refine Below.setCell ?_ (by first | omega | (simp; done) | (simp; omega)) _ | refine Below.trans ?_ (Below.mono (by assumption) (by first | omega | (simp; done) | (simp; omega)))))) (bools4 w6 true false false false 4) ex_valid rfl
  rw [show col exL [true, false, false, false] exL.length = [1, 2] from ex_col] at c7
  refine Calls.mono c7 ?_
  clear c7
  rintro e w7 ⟨ra, rc, rfl, hR7, hb7⟩
  have hs7 := hb7.size
  simp at hs7
  have hU7 : Bools w7 ua _ := hU6.later (by repeat (first | exact Below.refl _ _ | assumption | refine Below.drew ?_ | refine below_drewN ?_ _ | refine Below.alloc ?_ (by first | omega | (simp; done) | (simp; omega)) _ | refine Below.setCell ?_ (by first | omega | (simp; done) | (simp; omega)) _ | refine Below.trans ?_ (Below.mono (by assumption) (by first | omega | (simp; done) | (simp; omega)))))
  have hk7 : Below w.heap.size w w7 := (by repeat (first | exact Below.refl _ _ | assumption | refine Below.drew ?_ | refine below_drewN ?_ _ | refine Below.alloc ?_ (by first | omega | (simp; done) | (simp; omega)) _ | refine Below.setCell ?_ (by first | omega | (simp; done) | (simp; omega)) _ | refine Below.trans ?_ (Below.mono (by assumption) (by first | omega | (simp; done) | (simp; omega)))))
  clear hb7 hT6 hU6
  go_wp2_with fail
  refine Calls.mono (sameInts_any [1, 2] [1, 2] true ra (some ⟨w7.heap.size, 0, none⟩) rc 2 _ (hR7.later (by repeat (first | exact Below.refl _ _ | assumption | refine Below.drew ?_ | refine below_drewN ?_ _ | refine Below.alloc ?_ (by first | omega | (simp; done) | (simp; omega)) _ | refine Below.setCell ?_ (by first | omega | (simp; done) | (simp; omega)) _ | refine Below.trans ?_ (Below.mono (by assumption) (by first | omega | (simp; done) | (simp; omega)))))) (ints2 w7 1 2 3) (by decide) (by decide) (by simp)) ?_
  rintro e w8 ⟨rfl, hb8⟩
  have hs8 := hb8.size
  simp at hs8
  have hU8 : Bools w8 ua _ := hU7.later (by repeat (first | exact Below.refl _ _ | assumption | refine Below.drew ?_ | refine below_drewN ?_ _ | refine Below.alloc ?_ (by first | omega | (simp; done) | (simp; omega)) _ | refine Below.setCell ?_ (by first | omega | (simp; done) | (simp; omega)) _ | refine Below.trans ?_ (Below.mono (by assumption) (by first | omega | (simp; done) | (simp; omega)))))
  have hk8 : Below w.heap.size w w8 := (by repeat (first | exact Below.refl _ _ | assumption | refine Below.drew ?_ | refine below_drewN ?_ _ | refine Below.alloc ?_ (by first | omega | (simp; done) | (simp; omega)) _ | refine Below.setCell ?_ (by first | omega | (simp; done) | (simp; omega)) _ | refine Below.trans ?_ (Below.mono (by assumption) (by first | omega | (simp; done) | (simp; omega)))))
  clear hb8 hU7
  go_wp2_with fail
  refine Calls.mono (sameBools_any [false, false, true, false] [false, false, true, false] true ua (some ⟨w8.heap.size, 0, none⟩) uc 4 _ (hU8.later (by repeat (first | exact Below.refl _ _ | assumption | refine Below.drew ?_ | refine below_drewN ?_ _ | refine Below.alloc ?_ (by first | omega | (simp; done) | (simp; omega)) _ | refine Below.setCell ?_ (by first | omega | (simp; done) | (simp; omega)) _ | refine Below.trans ?_ (Below.mono (by assumption) (by first | omega | (simp; done) | (simp; omega)))))) (bools4 w8 false false true false 4) (by decide) (by decide) (by simp)) ?_
  rintro e w9 ⟨rfl, hb9⟩
  have hs9 := hb9.size
  simp at hs9
  go_wp2_with fail
  go_ret
  exact retB rfl (by repeat (first | exact Below.refl _ _ | assumption | refine Below.drew ?_ | refine below_drewN ?_ _ | refine Below.alloc ?_ (by first | omega | (simp; done) | (simp; omega)) _ | refine Below.setCell ?_ (by first | omega | (simp; done) | (simp; omega)) _ | refine Below.trans ?_ (Below.mono (by assumption) (by first | omega | (simp; done) | (simp; omega)))))
end Go.Proofs.Ytidbmllelnffdaa
