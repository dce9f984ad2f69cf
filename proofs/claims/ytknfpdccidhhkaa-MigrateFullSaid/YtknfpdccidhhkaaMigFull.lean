


/- MigrateFull: for every used life and two limits without an error what was full is full: the call of the law returns true, for every input. -/
import Derived.Test.YtknfpdccidhhkaaMigOpen
import Derived.Test.YtknfpdccidhhkaaMigT
import Derived.Test.YtknfpdccidhhkaaMigV
namespace Go.Proofs.Ytknfpdccidhhkaa
open Go.ChangeShapes Go.WideShapes Go.ChangeAt Go.RowKit Go.Joins

namespace MigrateFull
theorem x_of {f : FuncId} {x : Int × Int × Int} {p q e : Int} {args : Array Value} {w : World} (h : Calls Try.prog f args w (RetX x w)) (hx : x = (p, q, e)) : Calls Try.prog f args w (fun e' w' => e' = .returned (.tuple #[.agg #[.int .i64 p, .int .i64 q], .int .i64 e]) ∧ Below w.heap.size w w') := by
  subst hx
  exact h
set_option maxRecDepth 100000 in
set_option maxHeartbeats 4000000 in
theorem no (a b n m e0 : Int) (h0 : e0 ≠ 0) (h : scX a b n m = (0, 0, e0)) (w : World) : Calls Try.prog 5 #[.agg #[.int .i64 a, .int .i64 b], .int .i64 n, .int .i64 m] w (RetB (.bool true) w) := by
  have H := Lib.hid h
  clear h
  have d0 : (e0 != 0) = true := by simpa using h0
  clear h0
  go_enter Try.func5, Try.ntmps5
  go_wp2_with fail
  refine Calls.mono (head_any _) ?_
  rintro e w1 ⟨rfl, hb1⟩; have hs1 := hb1.size; (try simp at hs1)
  have _c0 : w1.cell? ⟨w.heap.size, 0, none⟩ = some (.int .i64 a) := cell_later hb1 (by first | assumption | (simp [go_sem, *]; done) | exact cell_later' (by assumption) (by repeat (first | exact Below.refl _ _ | assumption | refine Below.drew ?_ | refine below_drewN ?_ _ | refine Below.alloc ?_ (by first | omega | (simp; done) | (simp; omega)) _ | refine Below.setCell ?_ (by first | omega | (simp; done) | (simp; omega)) _ | refine Below.trans ?_ (Below.mono (by assumption) (by first | omega | (simp; done) | (simp; omega)))))); have _f0 : w1.frozen? ⟨w.heap.size, 0, none⟩ = false := (hb1.frozen (p := ⟨w.heap.size, 0, none⟩) (by first | omega | (simp; done) | (simp; omega))).trans (by first | assumption | (simp [go_sem, *]; done) | exact frozen_later' (by assumption) (by first | omega | (simp; done) | (simp; omega)) (by repeat (first | exact Below.refl _ _ | assumption | refine Below.drew ?_ | refine below_drewN ?_ _ | refine Below.alloc ?_ (by first | omega | (simp; done) | (simp; omega)) _ | refine Below.setCell ?_ (by first | omega | (simp; done) | (simp; omega)) _ | refine Below.trans ?_ (Below.mono (by assumption) (by first | omega | (simp; done) | (simp; omega)))))); have _c1 : w1.cell? ⟨w.heap.size, 1, none⟩ = some (.int .i64 b) := cell_later hb1 (by first | assumption | (simp [go_sem, *]; done) | exact cell_later' (by assumption) (by repeat (first | exact Below.refl _ _ | assumption | refine Below.drew ?_ | refine below_drewN ?_ _ | refine Below.alloc ?_ (by first | omega | (simp; done) | (simp; omega)) _ | refine Below.setCell ?_ (by first | omega | (simp; done) | (simp; omega)) _ | refine Below.trans ?_ (Below.mono (by assumption) (by first | omega | (simp; done) | (simp; omega)))))); have _f1 : w1.frozen? ⟨w.heap.size, 1, none⟩ = false := (hb1.frozen (p := ⟨w.heap.size, 1, none⟩) (by first | omega | (simp; done) | (simp; omega))).trans (by first | assumption | (simp [go_sem, *]; done) | exact frozen_later' (by assumption) (by first | omega | (simp; done) | (simp; omega)) (by repeat (first | exact Below.refl _ _ | assumption | refine Below.drew ?_ | refine below_drewN ?_ _ | refine Below.alloc ?_ (by first | omega | (simp; done) | (simp; omega)) _ | refine Below.setCell ?_ (by first | omega | (simp; done) | (simp; omega)) _ | refine Below.trans ?_ (Below.mono (by assumption) (by first | omega | (simp; done) | (simp; omega))))))
  go_wp2_with fail
  refine Calls.mono (x_of (scale_any a b n m _) H.out) ?_
  rintro e w2 ⟨rfl, hb2⟩
  have hs2 := hb2.size
  go_wp2_with fail
  go_ret
  exact retB rfl (by repeat (first | exact Below.refl _ _ | assumption | refine Below.drew ?_ | refine below_drewN ?_ _ | refine Below.alloc ?_ (by first | omega | (simp; done) | (simp; omega)) _ | refine Below.setCell ?_ (by first | omega | (simp; done) | (simp; omega)) _ | refine Below.trans ?_ (Below.mono (by assumption) (by first | omega | (simp; done) | (simp; omega)))))
set_option maxRecDepth 100000 in
set_option maxHeartbeats 8000000 in
theorem yes (a b n m x y : Nat) (h : ScOk a b n m x y) (w : World) : Calls Try.prog 5 #[.agg #[.int .i64 (a : Int), .int .i64 (b : Int)], .int .i64 (n : Int), .int .i64 (m : Int)] w (RetB (.bool true) w) := by
  have H1 := Lib.hid (sc_make h)
  have H2 := Lib.hid (sc_make (ScOk.whole h.n0 h.n1 h.m0 h.m1))
  have H3 := Lib.hid (sc_make (ScOk.none h.n0 h.n1 h.m0 h.m1))
  have H4 := Lib.hid (sc_make (ScOk.same h.ab h.b1 h.n0 h.n1))
  obtain ⟨g1, g2, g3⟩ := h.full
  have F1 := Lib.hid g1
  have F2 := Lib.hid g2
  have F3 := Lib.hid g3
  clear h g1 g2 g3
  go_enter Try.func5, Try.ntmps5
  go_wp2_with fail
  refine Calls.mono (head_any _) ?_
  rintro e w1 ⟨rfl, hb1⟩; have hs1 := hb1.size; (try simp at hs1)
  have _c0 : w1.cell? ⟨w.heap.size, 0, none⟩ = some (.int .i64 (a : Int)) := cell_later hb1 (by first | assumption | (simp [go_sem, *]; done) | exact cell_later' (by assumption) (by repeat (first | exact Below.refl _ _ | assumption | refine Below.drew ?_ | refine below_drewN ?_ _ | refine Below.alloc ?_ (by first | omega | (simp; done) | (simp; omega)) _ | refine Below.setCell ?_ (by first | omega | (simp; done) | (simp; omega)) _ | refine Below.trans ?_ (Below.mono (by assumption) (by first | omega | (simp; done) | (simp; omega)))))); have _f0 : w1.frozen? ⟨w.heap.size, 0, none⟩ = false := (hb1.frozen (p := ⟨w.heap.size, 0, none⟩) (by first | omega | (simp; done) | (simp; omega))).trans (by first | assumption | (simp [go_sem, *]; done) | exact frozen_later' (by assumption) (by first | omega | (simp; done) | (simp; omega)) (by repeat (first | exact Below.refl _ _ | assumption | refine Below.drew ?_ | refine below_drewN ?_ _ | refine Below.alloc ?_ (by first | omega | (simp; done) | (simp; omega)) _ | refine Below.setCell ?_ (by first | omega | (simp; done) | (simp; omega)) _ | refine Below.trans ?_ (Below.mono (by assumption) (by first | omega | (simp; done) | (simp; omega)))))); have _c1 : w1.cell? ⟨w.heap.size, 1, none⟩ = some (.int .i64 (b : Int)) := cell_later hb1 (by first | assumption | (simp [go_sem, *]; done) | exact cell_later' (by assumption) (by repeat (first | exact Below.refl _ _ | assumption | refine Below.drew ?_ | refine below_drewN ?_ _ | refine Below.alloc ?_ (by first | omega | (simp; done) | (simp; omega)) _ | refine Below.setCell ?_ (by first | omega | (simp; done) | (simp; omega)) _ | refine Below.trans ?_ (Below.mono (by assumption) (by first | omega | (simp; done) | (simp; omega)))))); have _f1 : w1.frozen? ⟨w.heap.size, 1, none⟩ = false := (hb1.frozen (p := ⟨w.heap.size, 1, none⟩) (by first | omega | (simp; done) | (simp; omega))).trans (by first | assumption | (simp [go_sem, *]; done) | exact frozen_later' (by assumption) (by first | omega | (simp; done) | (simp; omega)) (by repeat (first | exact Below.refl _ _ | assumption | refine Below.drew ?_ | refine below_drewN ?_ _ | refine Below.alloc ?_ (by first | omega | (simp; done) | (simp; omega)) _ | refine Below.setCell ?_ (by first | omega | (simp; done) | (simp; omega)) _ | refine Below.trans ?_ (Below.mono (by assumption) (by first | omega | (simp; done) | (simp; omega))))))
  go_wp2_with fail
  refine Calls.mono (x_of (scale_any _ _ _ _ _) H1.out) ?_
  rintro e w2 ⟨rfl, hb2⟩
  have hs2 := hb2.size
  have l2 : w.heap.size < w2.heap.size := by omega
  have p20 : w2.cell? ⟨w.heap.size, 0, none⟩ = some (.int .i64 (a : Int)) := cell_later hb2 (by (first | assumption | exact cell_alloc (by assumption) _ | (simp [go_sem, *]; done))); have p21 : w2.cell? ⟨w.heap.size, 1, none⟩ = some (.int .i64 (b : Int)) := cell_later hb2 (by (first | assumption | exact cell_alloc (by assumption) _ | (simp [go_sem, *]; done)))
  go_wp2_with fail
  refine Calls.mono (of_any _ _ _) ?_
  rintro e w3 ⟨rfl, hb3⟩
  have hs3 := hb3.size
  simp at hs3
  have l3 : w.heap.size < w3.heap.size := by omega
  have p30 : w3.cell? ⟨w.heap.size, 0, none⟩ = some (.int .i64 (a : Int)) := cell_later hb3 (by (first | assumption | exact cell_alloc (by assumption) _ | (simp [go_sem, *]; done))); have p31 : w3.cell? ⟨w.heap.size, 1, none⟩ = some (.int .i64 (b : Int)) := cell_later hb3 (by (first | assumption | exact cell_alloc (by assumption) _ | (simp [go_sem, *]; done)))
  have q30 : w3.cell? ⟨w2.heap.size, 0, none⟩ = some (.int .i64 (x : Int)) := cell_later hb3 (by (first | assumption | exact cell_alloc (by assumption) _ | (simp [go_sem, *]; done))); have q31 : w3.cell? ⟨w2.heap.size, 1, none⟩ = some (.int .i64 (y : Int)) := cell_later hb3 (by (first | assumption | exact cell_alloc (by assumption) _ | (simp [go_sem, *]; done)))
  go_wp2_with fail
  refine Calls.mono (x_of (scale_any _ _ _ _ _) H2.out) ?_
  rintro e w4 ⟨rfl, hb4⟩
  have hs4 := hb4.size
  have l4a : w.heap.size < w4.heap.size := by omega
  have l4b : w2.heap.size < w4.heap.size := by omega
  have p40 : w4.cell? ⟨w.heap.size, 0, none⟩ = some (.int .i64 (a : Int)) := cell_later hb4 (by (first | assumption | exact cell_alloc (by assumption) _ | (simp [go_sem, *]; done))); have p41 : w4.cell? ⟨w.heap.size, 1, none⟩ = some (.int .i64 (b : Int)) := cell_later hb4 (by (first | assumption | exact cell_alloc (by assumption) _ | (simp [go_sem, *]; done)))
  have q40 : w4.cell? ⟨w2.heap.size, 0, none⟩ = some (.int .i64 (x : Int)) := cell_later hb4 (by (first | assumption | exact cell_alloc (by assumption) _ | (simp [go_sem, *]; done))); have q41 : w4.cell? ⟨w2.heap.size, 1, none⟩ = some (.int .i64 (y : Int)) := cell_later hb4 (by (first | assumption | exact cell_alloc (by assumption) _ | (simp [go_sem, *]; done)))
  go_wp2_with fail
  refine Calls.mono (of_any _ _ _) ?_
  rintro e w5 ⟨rfl, hb5⟩
  have hs5 := hb5.size
  simp at hs5
  have l5a : w.heap.size < w5.heap.size := by omega
  have l5b : w2.heap.size < w5.heap.size := by omega
  have p50 : w5.cell? ⟨w.heap.size, 0, none⟩ = some (.int .i64 (a : Int)) := cell_later hb5 (by (first | assumption | exact cell_alloc (by assumption) _ | (simp [go_sem, *]; done))); have p51 : w5.cell? ⟨w.heap.size, 1, none⟩ = some (.int .i64 (b : Int)) := cell_later hb5 (by (first | assumption | exact cell_alloc (by assumption) _ | (simp [go_sem, *]; done)))
  have q50 : w5.cell? ⟨w2.heap.size, 0, none⟩ = some (.int .i64 (x : Int)) := cell_later hb5 (by (first | assumption | exact cell_alloc (by assumption) _ | (simp [go_sem, *]; done))); have q51 : w5.cell? ⟨w2.heap.size, 1, none⟩ = some (.int .i64 (y : Int)) := cell_later hb5 (by (first | assumption | exact cell_alloc (by assumption) _ | (simp [go_sem, *]; done)))
  have r50 : w5.cell? ⟨w4.heap.size, 0, none⟩ = some (.int .i64 (m : Int)) := cell_later hb5 (by (first | assumption | exact cell_alloc (by assumption) _ | (simp [go_sem, *]; done))); have r51 : w5.cell? ⟨w4.heap.size, 1, none⟩ = some (.int .i64 (m : Int)) := cell_later hb5 (by (first | assumption | exact cell_alloc (by assumption) _ | (simp [go_sem, *]; done)))
  go_wp2_with fail
  refine Calls.mono (x_of (scale_any _ _ _ _ _) H3.out) ?_
  rintro e w6 ⟨rfl, hb6⟩
  have hs6 := hb6.size
  have l6a : w.heap.size < w6.heap.size := by omega
  have l6b : w2.heap.size < w6.heap.size := by omega
  have l6c : w4.heap.size < w6.heap.size := by omega
  have p60 : w6.cell? ⟨w.heap.size, 0, none⟩ = some (.int .i64 (a : Int)) := cell_later hb6 (by (first | assumption | exact cell_alloc (by assumption) _ | (simp [go_sem, *]; done))); have p61 : w6.cell? ⟨w.heap.size, 1, none⟩ = some (.int .i64 (b : Int)) := cell_later hb6 (by (first | assumption | exact cell_alloc (by assumption) _ | (simp [go_sem, *]; done)))
  have q60 : w6.cell? ⟨w2.heap.size, 0, none⟩ = some (.int .i64 (x : Int)) := cell_later hb6 (by (first | assumption | exact cell_alloc (by assumption) _ | (simp [go_sem, *]; done))); have q61 : w6.cell? ⟨w2.heap.size, 1, none⟩ = some (.int .i64 (y : Int)) := cell_later hb6 (by (first | assumption | exact cell_alloc (by assumption) _ | (simp [go_sem, *]; done)))
  have r60 : w6.cell? ⟨w4.heap.size, 0, none⟩ = some (.int .i64 (m : Int)) := cell_later hb6 (by (first | assumption | exact cell_alloc (by assumption) _ | (simp [go_sem, *]; done))); have r61 : w6.cell? ⟨w4.heap.size, 1, none⟩ = some (.int .i64 (m : Int)) := cell_later hb6 (by (first | assumption | exact cell_alloc (by assumption) _ | (simp [go_sem, *]; done)))
  go_wp2_with fail
  refine Calls.mono (x_of (scale_any _ _ _ _ _) H4.out) ?_
  rintro e w7 ⟨rfl, hb7⟩
  have hs7 := hb7.size
  simp at hs7
  have l7a : w.heap.size < w7.heap.size := by omega
  have l7b : w2.heap.size < w7.heap.size := by omega
  have l7c : w4.heap.size < w7.heap.size := by omega
  have l7d : w6.heap.size < w7.heap.size := by omega
  have p70 : w7.cell? ⟨w.heap.size, 0, none⟩ = some (.int .i64 (a : Int)) := cell_later hb7 (by (first | assumption | exact cell_alloc (by assumption) _ | (simp [go_sem, *]; done))); have p71 : w7.cell? ⟨w.heap.size, 1, none⟩ = some (.int .i64 (b : Int)) := cell_later hb7 (by (first | assumption | exact cell_alloc (by assumption) _ | (simp [go_sem, *]; done)))
  have q70 : w7.cell? ⟨w2.heap.size, 0, none⟩ = some (.int .i64 (x : Int)) := cell_later hb7 (by (first | assumption | exact cell_alloc (by assumption) _ | (simp [go_sem, *]; done))); have q71 : w7.cell? ⟨w2.heap.size, 1, none⟩ = some (.int .i64 (y : Int)) := cell_later hb7 (by (first | assumption | exact cell_alloc (by assumption) _ | (simp [go_sem, *]; done)))
  have r70 : w7.cell? ⟨w4.heap.size, 0, none⟩ = some (.int .i64 (m : Int)) := cell_later hb7 (by (first | assumption | exact cell_alloc (by assumption) _ | (simp [go_sem, *]; done))); have r71 : w7.cell? ⟨w4.heap.size, 1, none⟩ = some (.int .i64 (m : Int)) := cell_later hb7 (by (first | assumption | exact cell_alloc (by assumption) _ | (simp [go_sem, *]; done)))
  have s70 : w7.cell? ⟨w6.heap.size, 0, none⟩ = some (.int .i64 0) := cell_later hb7 (by (first | assumption | exact cell_alloc (by assumption) _ | (simp [go_sem, *]; done))); have s71 : w7.cell? ⟨w6.heap.size, 1, none⟩ = some (.int .i64 0) := cell_later hb7 (by (first | assumption | exact cell_alloc (by assumption) _ | (simp [go_sem, *]; done)))
  go_wp2_with fail
  have hS : ∀ wx : World, Below (w7.alloc (Obj.cells #[.int .i64 (a : Int), .int .i64 (b : Int)] 23)).heap.size (w7.alloc (Obj.cells #[.int .i64 (a : Int), .int .i64 (b : Int)] 23)) wx →
      (wx.cell? ⟨w.heap.size, 0, none⟩ = some (.int .i64 (a : Int)) ∧ wx.cell? ⟨w.heap.size, 1, none⟩ = some (.int .i64 (b : Int)) ∧ wx.cell? ⟨w2.heap.size, 0, none⟩ = some (.int .i64 (x : Int)) ∧ wx.cell? ⟨w2.heap.size, 1, none⟩ = some (.int .i64 (y : Int)) ∧ wx.cell? ⟨w4.heap.size, 0, none⟩ = some (.int .i64 (m : Int)) ∧ wx.cell? ⟨w4.heap.size, 1, none⟩ = some (.int .i64 (m : Int)) ∧
        wx.cell? ⟨w6.heap.size, 0, none⟩ = some (.int .i64 0) ∧ wx.cell? ⟨w6.heap.size, 1, none⟩ = some (.int .i64 0) ∧ wx.cell? ⟨w7.heap.size, 0, none⟩ = some (.int .i64 (a : Int)) ∧ wx.cell? ⟨w7.heap.size, 1, none⟩ = some (.int .i64 (b : Int))) := by (intro wx hbx; (repeat' apply And.intro) <;> exact cell_later hbx (by (first | assumption | exact cell_alloc (by assumption) _ | (simp [go_sem, *]; done))))
  refine wp_flow_s [] [] (by kernel_rfl) (by kernel_rfl) (by kernel_rfl) ?_
  repeat (first | ((with_reducible refine Flow.pure hS StayG.nil (v := ?_) ?_ ?_ ?_ ?_); rotate_left 1; (focus kernel_rfl); (focus (intro _; rfl)); (focus (intro β wx hSw; (try dsimp only at hSw); go_simp; (try with_reducible rfl); done)); (try simp only [Act.put, List.setIfInBounds_toArray, List.set_cons_zero, List.set_cons_succ, Nat.reduceAdd])) | ((with_reducible refine Flow.call hS StayG.nil (v := ?_) ?_ ?_ ?_ ?_); rotate_left 1; (focus kernel_rfl); (focus (intro _; rfl)); (focus (intro β L wx hI hat hSw K' hK; (try dsimp only at hSw); go_simp; go_at_call 16; refine Calls.mono (of_any _ _ _) ?_; rintro e w' ⟨rfl, hb'⟩; exact hK.out _ hb')); (try simp only [Act.put, List.setIfInBounds_toArray, List.set_cons_zero, List.set_cons_succ, Nat.reduceAdd])))
  ((with_reducible refine Flow.stop ?_); dsimp only; intro β w8 hI)
  have hb8 := hI.below
  obtain ⟨m1, m2, m3, m4, m5, m6, m7, m8, m9, m10⟩ := hS w8 hb8
  have HB8 := Lib.hid hb8
  have HB7 := Lib.hid hb7
  clear hS hI hb8 hb7
  go_wp2_with fail
  all_goals
    first
    | (exfalso; have g1 := F1.out; have g2 := F2.out; omega)
    | (have hb8 := HB8.out; have hb7 := HB7.out; have g3 := F3.out; go_ret; exact retB (vbool (by first | (simp; done) | (simp; omega))) (by repeat (first | exact Below.refl _ _ | assumption | refine Below.drew ?_ | refine below_drewN ?_ _ | refine Below.alloc ?_ (by first | omega | (simp; done) | (simp; omega)) _ | refine Below.setCell ?_ (by first | omega | (simp; done) | (simp; omega)) _ | refine Below.trans ?_ (Below.mono (by assumption) (by first | omega | (simp; done) | (simp; omega))))))
theorem walk (a b : Int) (_ : (Lit.int .i64 a).wf = true) (_ : (Lit.int .i64 b).wf = true) (n : Int) (_ : -9223372036854775808 ≤ n ∧ n < 9223372036854775808) (m : Int) (_ : -9223372036854775808 ≤ m ∧ m < 9223372036854775808) (w : World) :
    Calls Try.prog 5 #[.agg #[.int .i64 a, .int .i64 b], .int .i64 n, .int .i64 m] w (RetB (.bool true) w) := by
  rcases sc_parts a b n m with ⟨e, he, h⟩ | ⟨A, B, N, M, x, y, rfl, rfl, rfl, rfl, _, h⟩
  · exact no a b n m e he h w
  · exact yes A B N M x y h w
end MigrateFull
namespace MigrateFull
set_option maxRecDepth 100000 in
theorem entry (H : Type) (enc : TypeId × Value → H) (W : World) (base : Nat) (args : Array Value) (ds : List (DataW H)) (p : List MemPlace)
    (hval : ∀ (j : Nat) t v, Try.f5.params[j]? = some t → args[j]? = some v → Value.okWide Try.prog W .any base t v)
    (hA : DataW.TrodAll enc Try.prog W 0 (fun _ => true) true Try.f5.params.toList args.toList ds p) :
    Calls Try.prog 5 args W (RetB (.bool true) W) := by
  rw [Try.params5] at hA hval
  obtain ⟨v0, vs0, d0, ds0, p0, q0, hargs, rfl, rfl, h0, r0⟩ := trodAll_cons hA
  obtain ⟨v1, vs1, d1, ds1, p1, q1, rfl, rfl, rfl, h1, r1⟩ := trodAll_cons r0
  obtain ⟨v2, vs2, d2, ds2, p2, q2, rfl, rfl, rfl, h2, r2⟩ := trodAll_cons r1
  obtain ⟨rfl, rfl, rfl⟩ := trodAll_nil r2
  obtain rfl : args = #[v0, v1, v2] := by cases args; simp_all
  obtain ⟨a0, a1, rfl, ax, ay⟩ := open_interval (hval 0 23 v0 rfl rfl) h0
  obtain ⟨n, rfl, no⟩ := open_i64 (hval 1 3 v1 rfl rfl) h1
  obtain ⟨m, rfl, mo⟩ := open_i64 (hval 2 3 v2 rfl rfl) h2
  exact walk a0 a1 ax ay n no m mo W
end MigrateFull
/-! The step from the walk to the row of MigrateFull. -/
namespace MigrateFull
set_option maxRecDepth 100000 in
theorem lifted (os : Os) (started : os.Started) (H : Type) (enc : TypeId × Value → H) :
    ReturnsInHanded {} Try.checked os 5 .any (Rows.migrateFullSpec.pre6 enc Try.prog Try.f5 Rows.migrateFullRow.domain false) (Rows.migrateFullSpec.post enc Try.prog Try.f5 false true false false) := by
  refine returnsInHanded_of_change (C := Try.checked) own started (by kernel_rfl) Try.func5
    (ChangeSpec.witness6 (enc := enc) (C := Try.checked) false ⟨#[], #[.agg #[.int .i64 0, .int .i64 0], .int .i64 0, .int .i64 0], []⟩ 8 (by kernel_rfl) (by kernel_rfl) (by kernel_rfl) (by kernel_rfl)) ?_
  intro W base args ds gs before hval0 hW hcnd _
  have hval : ∀ (j : Nat) t v, Try.f5.params[j]? = some t → args[j]? = some v → Value.okWide Try.prog W .any base t v := hval0
  have hW' := hW
  obtain ⟨p, q, hA0, hV, rfl, hfz, hnd⟩ := hW
  have hA : DataW.TrodAll enc Try.prog W 0 (fun _ => true) true Try.f5.params.toList args.toList ds p := hA0
  obtain ⟨rfl, rfl⟩ := trodVars_none hV
  have hlen := trodAll_len _ _ _ _ hA
  obtain ⟨d0, d1, d2, rfl⟩ : ∃ d0 d1 d2, ds = [d0, d1, d2] := by
    rw [Try.params5] at hlen
    exact list3 hlen
  refine (entry H enc W base args [d0, d1, d2] p hval hA).mono fun e W' ⟨he, bel⟩ => ?_
  subst he
  exact ⟨_, rfl, _, _, _, [], _, [], hW', trodAll_mk1 (shut_bool Try.underlying4 _), readback laidOut _ _ _ _ (by rw [Try.params5]; exact of_decide_eq_true (by kernel_rfl)) hA bel, rfl, bel.frame _, fun h => by cases h⟩

theorem over : Rows.migrateFullRow.holds Try.pinned (OpenSpec.ofChange Rows.migrateFullSpec) :=
  OpenClaim.holds_of_wide 5 Try.f5 rfl rfl rfl rfl rfl rfl rfl ⟨rfl, rfl, rfl, rfl, rfl⟩ rfl rfl rfl rfl rfl (by kernel_rfl) Try.func5 (by kernel_rfl)
    (of_decide_eq_true (by kernel_rfl)) (by unfold Func.isWrapper; first | (rw [if_pos (by decide +kernel)]; kernel_rfl) | (rw [if_neg (by decide +kernel)]; exact ⟨rfl, rfl⟩))
    (fun os started H enc _ => lifted os started H enc)

/-- THE STATEMENT -/
theorem proved : Rows.MigrateFullSaid := over
end MigrateFull
#print axioms MigrateFull.proved
end Go.Proofs.Ytknfpdccidhhkaa
