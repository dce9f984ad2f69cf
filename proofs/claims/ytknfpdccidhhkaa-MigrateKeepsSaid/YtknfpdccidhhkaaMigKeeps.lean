


/- MigrateKeeps: for every used life and two limits without an error the new bounds are those that the limits ask for: the call of the law returns true, for every input. -/
import Derived.Test.YtknfpdccidhhkaaMigOpen
import Derived.Test.YtknfpdccidhhkaaMigT
import Derived.Test.YtknfpdccidhhkaaMigV
import Derived.Test.YtknfpdccidhhkaaMigL
namespace Go.Proofs.Ytknfpdccidhhkaa
open Go.ChangeShapes Go.WideShapes Go.ChangeAt Go.RowKit Go.Joins

namespace MigrateKeeps
theorem x_of {f : FuncId} {x : Int × Int × Int} {p q e : Int} {args : Array Value} {w : World} (h : Calls Try.prog f args w (RetX x w)) (hx : x = (p, q, e)) : Calls Try.prog f args w (fun e' w' => e' = .returned (.tuple #[.agg #[.int .i64 p, .int .i64 q], .int .i64 e]) ∧ Below w.heap.size w w') := by
  subst hx
  exact h
theorem cmp_at {a b c d : Nat} {r : Int} {x : Int} (ha : a ≤ 1000000000001) (hb : b ≤ 1000000000001) (hc : c ≤ 1000000000001) (hd : d ≤ 1000000000001) (hx : (a : Int) = x) (hr : cmpV a b c d = r) (w : World) :
    Calls Try.prog 17 #[.int .i64 x, .int .i64 (b : Int), .int .i64 (c : Int), .int .i64 (d : Int)] w (RetB (.int .i64 r) w) := by
  subst hx hr
  exact compare_any a b c d ha hb hc hd w
set_option maxRecDepth 100000 in
set_option maxHeartbeats 4000000 in
theorem no (a b n m e0 : Int) (h0 : e0 ≠ 0) (h : scX a b n m = (0, 0, e0)) (w : World) : Calls Try.prog 4 #[.agg #[.int .i64 a, .int .i64 b], .int .i64 n, .int .i64 m] w (RetB (.bool true) w) := by
  have H := Lib.hid h
  clear h
  have d0 : (e0 != 0) = true := by simpa using h0
  clear h0
  go_enter Try.func4, Try.ntmps4
  go_wp2_with fail
  refine Calls.mono (head_any _) ?_
  rintro e w1 ⟨rfl, hb1⟩; have hs1 := hb1.size; (try simp at hs1)
  have _c0 : w1.cell? ⟨w.heap.size, 0, none⟩ = some (.int .i64 a) := cell_later hb1 (by first | assumption | (simp [go_sem, *]; done) | exact cell_later' (by assumption) (by repeat (first | exact Below.refl _ _ | assumption | refine Below.drew ?_ | refine below_drewN ?_ _ | refine Below.alloc ?_ (by first | omega | (simp; done) | (simp; omega)) _ | refine Below.setCell ?_ (by first | omega | (simp; done) | (simp; omega)) _ | refine Below.trans ?_ (Below.mono (by assumption) (by first | omega | (simp; done) | (simp; omega)))))); have _f0 : w1.frozen? ⟨w.heap.size, 0, none⟩ = false := (hb1.frozen (p := ⟨w.heap.size, 0, none⟩) (by first | omega | (simp; done) | (simp; omega))).trans (by first | assumption | (simp [go_sem, *]; done) | exact frozen_later' (by assumption) (by first | omega | (simp; done) | (simp; omega)) (by repeat (first | exact Below.refl _ _ | assumption | refine Below.drew ?_ | refine below_drewN ?_ _ | refine Below.alloc ?_ (by first | omega | (simp; done) | (simp; omega)) _ | refine Below.setCell ?_ (by first | omega | (simp; done) | (simp; omega)) _ | refine Below.trans ?_ (Below.mono (by assumption) (by first | omega | (simp; done) | (simp; omega)))))); have _c1 : w1.cell? ⟨w.heap.size, 1, none⟩ = some (.int .i64 b) := cell_later hb1 (by first | assumption | (simp [go_sem, *]; done) | exact cell_later' (by assumption) (by repeat (first | exact Below.refl _ _ | assumption | refine Below.drew ?_ | refine below_drewN ?_ _ | refine Below.alloc ?_ (by first | omega | (simp; done) | (simp; omega)) _ | refine Below.setCell ?_ (by first | omega | (simp; done) | (simp; omega)) _ | refine Below.trans ?_ (Below.mono (by assumption) (by first | omega | (simp; done) | (simp; omega)))))); have _f1 : w1.frozen? ⟨w.heap.size, 1, none⟩ = false := (hb1.frozen (p := ⟨w.heap.size, 1, none⟩) (by first | omega | (simp; done) | (simp; omega))).trans (by first | assumption | (simp [go_sem, *]; done) | exact frozen_later' (by assumption) (by first | omega | (simp; done) | (simp; omega)) (by repeat (first | exact Below.refl _ _ | assumption | refine Below.drew ?_ | refine below_drewN ?_ _ | refine Below.alloc ?_ (by first | omega | (simp; done) | (simp; omega)) _ | refine Below.setCell ?_ (by first | omega | (simp; done) | (simp; omega)) _ | refine Below.trans ?_ (Below.mono (by assumption) (by first | omega | (simp; done) | (simp; omega))))))
  go_wp2_with fail
  refine Calls.mono (x_of (scale_any a b n m _) H.out) ?_
  rintro e w2 ⟨rfl, hb2⟩
  have hs2 := hb2.size
  go_wp2_with fail
  have hS : ∀ wx : World, Below (w2.alloc (Obj.cells #[.int .i64 0, .int .i64 0] 23)).heap.size (w2.alloc (Obj.cells #[.int .i64 0, .int .i64 0] 23)) wx → (wx.cell? ⟨w2.heap.size, 0, none⟩ = some (.int .i64 0) ∧ wx.cell? ⟨w2.heap.size, 1, none⟩ = some (.int .i64 0)) := by (intro wx hbx; (repeat' apply And.intro) <;> exact cell_later hbx (by (first | assumption | exact cell_alloc (by assumption) _ | (simp [go_sem, *]; done))))
  refine wp_flow_s [] [] (by kernel_rfl) (by kernel_rfl) (by kernel_rfl) ?_
  repeat (first | ((with_reducible refine Flow.pure hS StayG.nil (v := ?_) ?_ ?_ ?_ ?_); rotate_left 1; (focus kernel_rfl); (focus (intro _; rfl)); (focus (intro β wx hSw; (try dsimp only at hSw); go_simp; (try with_reducible rfl); done)); (try simp only [Act.put, List.setIfInBounds_toArray, List.set_cons_zero, List.set_cons_succ, Nat.reduceAdd])) | ((with_reducible refine Flow.call hS StayG.nil (v := ?_) ?_ ?_ ?_ ?_); rotate_left 1; (focus kernel_rfl); (focus (intro _; rfl)); (focus (intro β L wx hI hat hSw K' hK; (try dsimp only at hSw); go_simp; go_at_call 16; refine Calls.mono (of_any _ _ _) ?_; rintro e w' ⟨rfl, hb'⟩; exact hK.out _ hb')); (try simp only [Act.put, List.setIfInBounds_toArray, List.set_cons_zero, List.set_cons_succ, Nat.reduceAdd])))
  ((with_reducible refine Flow.stop ?_); dsimp only; intro β w3 hI)
  have hb3 := hI.below
  go_wp2_with fail
  go_ret
  exact retB rfl (by repeat (first | exact Below.refl _ _ | assumption | refine Below.drew ?_ | refine below_drewN ?_ _ | refine Below.alloc ?_ (by first | omega | (simp; done) | (simp; omega)) _ | refine Below.setCell ?_ (by first | omega | (simp; done) | (simp; omega)) _ | refine Below.trans ?_ (Below.mono (by assumption) (by first | omega | (simp; done) | (simp; omega)))))
set_option maxRecDepth 100000 in
set_option maxHeartbeats 8000000 in
theorem yes (a b n m x y : Nat) (h : ScOk a b n m x y) (w : World) : Calls Try.prog 4 #[.agg #[.int .i64 (a : Int), .int .i64 (b : Int)], .int .i64 (n : Int), .int .i64 (m : Int)] w (RetB (.bool true) w) := by
  have H := Lib.hid (sc_make h)
  obtain ⟨h1, h2, h3, h4, h5, h6, h7, h8, h9, h10, h11, h12⟩ := h
  have t1 : decide ((x : Int) < 0) = false := by simp
  have t2 : decide ((y : Int) < (x : Int)) = false := by simp; omega
  have t2' : decide (y < x) = false := by simp; omega
  have t3 : decide ((1000000000000 : Int) < (y : Int)) = false := by simp; omega
  have t4 : decide ((a : Int) < 0) = false := by simp
  have t5 : decide ((1000000000000 : Int) < (b : Int)) = false := by simp; omega
  have t6 : decide ((n : Int) < 1) = false := by simp; omega
  have t7 : decide ((m : Int) < 1) = false := by simp; omega
  have t8 : decide ((1000000000000 : Int) < (n : Int)) = false := by simp; omega
  have t9 : decide ((1000000000000 : Int) < (m : Int)) = false := by simp; omega
  have hx2 : x ≤ 1000000000000 := by omega
  have b1 : y ≤ 1000000000001 := by omega
  have b2 : n ≤ 1000000000001 := by omega
  have b3 : b ≤ 1000000000001 := by omega
  have b4 : m ≤ 1000000000001 := by omega
  have b5 : x ≤ 1000000000001 := by omega
  have b6 : a ≤ 1000000000001 := by omega
  have b7 : x + 1 ≤ 1000000000001 := by omega
  have f1 : wrap64 ((x : Int) + 1) = (x : Int) + 1 := by unfold wrap64; omega
  have hc1 : 0 ≤ cmpV y n b m := by unfold cmpV; split; omega; split <;> omega
  have hc3 : cmpV x n a m ≤ 0 := by unfold cmpV; split; omega; split <;> omega
  have hc4 : 0 < cmpV (x + 1) n a m := by unfold cmpV; rw [if_neg (by omega), if_pos h8]; omega
  obtain ⟨r1, hr1⟩ : ∃ r, cmpV y n b m = r := ⟨_, rfl⟩
  obtain ⟨r3, hr3⟩ : ∃ r, cmpV x n a m = r := ⟨_, rfl⟩
  obtain ⟨r4, hr4⟩ : ∃ r, cmpV (x + 1) n a m = r := ⟨_, rfl⟩
  have C1 := Lib.hid (fun w => cmp_at b1 b2 b3 b4 rfl hr1 w)
  have C3 := Lib.hid (fun w => cmp_at b5 b2 b6 b4 rfl hr3 w)
  have C4 := Lib.hid (fun w => cmp_at b7 b2 b6 b4 (x := (x : Int) + 1) (by simp) hr4 w)
  have u1 : decide ((0 : Int) ≤ r1) = true := by rw [← hr1]; simpa using hc1
  have u3 : decide (r3 ≤ (0 : Int)) = true := by rw [← hr3]; simpa using hc3
  have u4 : decide ((0 : Int) < r4) = true := by rw [← hr4]; simpa using hc4
  clear hr1 hr3 hr4 hc1 hc3 hc4 h1 h2 h3 h4 h5 h6 h7 h8 h9 h11 h12
  rcases Nat.eq_zero_or_pos y with hy | hy
  · have v1 : ((y : Int) == 0) = true := by simp; omega
    clear h10 hy
    go_enter Try.func4, Try.ntmps4
    go_wp2_with fail
    refine Calls.mono (head_any _) ?_
    rintro e w1 ⟨rfl, hb1⟩; have hs1 := hb1.size; (try simp at hs1)
    have _c0 : w1.cell? ⟨w.heap.size, 0, none⟩ = some (.int .i64 (a : Int)) := cell_later hb1 (by first | assumption | (simp [go_sem, *]; done) | exact cell_later' (by assumption) (by repeat (first | exact Below.refl _ _ | assumption | refine Below.drew ?_ | refine below_drewN ?_ _ | refine Below.alloc ?_ (by first | omega | (simp; done) | (simp; omega)) _ | refine Below.setCell ?_ (by first | omega | (simp; done) | (simp; omega)) _ | refine Below.trans ?_ (Below.mono (by assumption) (by first | omega | (simp; done) | (simp; omega)))))); have _f0 : w1.frozen? ⟨w.heap.size, 0, none⟩ = false := (hb1.frozen (p := ⟨w.heap.size, 0, none⟩) (by first | omega | (simp; done) | (simp; omega))).trans (by first | assumption | (simp [go_sem, *]; done) | exact frozen_later' (by assumption) (by first | omega | (simp; done) | (simp; omega)) (by repeat (first | exact Below.refl _ _ | assumption | refine Below.drew ?_ | refine below_drewN ?_ _ | refine Below.alloc ?_ (by first | omega | (simp; done) | (simp; omega)) _ | refine Below.setCell ?_ (by first | omega | (simp; done) | (simp; omega)) _ | refine Below.trans ?_ (Below.mono (by assumption) (by first | omega | (simp; done) | (simp; omega)))))); have _c1 : w1.cell? ⟨w.heap.size, 1, none⟩ = some (.int .i64 (b : Int)) := cell_later hb1 (by first | assumption | (simp [go_sem, *]; done) | exact cell_later' (by assumption) (by repeat (first | exact Below.refl _ _ | assumption | refine Below.drew ?_ | refine below_drewN ?_ _ | refine Below.alloc ?_ (by first | omega | (simp; done) | (simp; omega)) _ | refine Below.setCell ?_ (by first | omega | (simp; done) | (simp; omega)) _ | refine Below.trans ?_ (Below.mono (by assumption) (by first | omega | (simp; done) | (simp; omega)))))); have _f1 : w1.frozen? ⟨w.heap.size, 1, none⟩ = false := (hb1.frozen (p := ⟨w.heap.size, 1, none⟩) (by first | omega | (simp; done) | (simp; omega))).trans (by first | assumption | (simp [go_sem, *]; done) | exact frozen_later' (by assumption) (by first | omega | (simp; done) | (simp; omega)) (by repeat (first | exact Below.refl _ _ | assumption | refine Below.drew ?_ | refine below_drewN ?_ _ | refine Below.alloc ?_ (by first | omega | (simp; done) | (simp; omega)) _ | refine Below.setCell ?_ (by first | omega | (simp; done) | (simp; omega)) _ | refine Below.trans ?_ (Below.mono (by assumption) (by first | omega | (simp; done) | (simp; omega))))))
    go_wp2_with fail
    refine Calls.mono (x_of (scale_any _ _ _ _ _) H.out) ?_
    rintro e w2 ⟨rfl, hb2⟩
    have hs2 := hb2.size
    have l2 : w.heap.size < w2.heap.size := by omega
    have p20 : w2.cell? ⟨w.heap.size, 0, none⟩ = some (.int .i64 (a : Int)) := cell_later hb2 (by (first | assumption | exact cell_alloc (by assumption) _ | (simp [go_sem, *]; done))); have p21 : w2.cell? ⟨w.heap.size, 1, none⟩ = some (.int .i64 (b : Int)) := cell_later hb2 (by (first | assumption | exact cell_alloc (by assumption) _ | (simp [go_sem, *]; done)))
    go_wp2_with fail
    refine Calls.mono (C1.out _) ?_
    rintro e w3 ⟨rfl, hb3⟩
    have hs3 := hb3.size
    simp at hs3
    have l3 : w.heap.size < w3.heap.size := by omega
    have p30 : w3.cell? ⟨w.heap.size, 0, none⟩ = some (.int .i64 (a : Int)) := cell_later hb3 (by (first | assumption | exact cell_alloc (by assumption) _ | (simp [go_sem, *]; done))); have p31 : w3.cell? ⟨w.heap.size, 1, none⟩ = some (.int .i64 (b : Int)) := cell_later hb3 (by (first | assumption | exact cell_alloc (by assumption) _ | (simp [go_sem, *]; done))); have r30 : w3.cell? ⟨w2.heap.size, 0, none⟩ = some (.int .i64 (x : Int)) := cell_later hb3 (by (first | assumption | exact cell_alloc (by assumption) _ | (simp [go_sem, *]; done))); have r31 : w3.cell? ⟨w2.heap.size, 1, none⟩ = some (.int .i64 (y : Int)) := cell_later hb3 (by (first | assumption | exact cell_alloc (by assumption) _ | (simp [go_sem, *]; done)))
    go_wp2_with fail
    (refine Calls.mono (C3.out _) ?_; rintro e w5 ⟨rfl, hb5⟩; have hs5 := hb5.size; have p50 : w5.cell? ⟨w.heap.size, 0, none⟩ = some (.int .i64 (a : Int)) := cell_later hb5 (by (first | assumption | exact cell_alloc (by assumption) _ | (simp [go_sem, *]; done))); have p51 : w5.cell? ⟨w.heap.size, 1, none⟩ = some (.int .i64 (b : Int)) := cell_later hb5 (by (first | assumption | exact cell_alloc (by assumption) _ | (simp [go_sem, *]; done))); have r50 : w5.cell? ⟨w2.heap.size, 0, none⟩ = some (.int .i64 (x : Int)) := cell_later hb5 (by (first | assumption | exact cell_alloc (by assumption) _ | (simp [go_sem, *]; done))); have r51 : w5.cell? ⟨w2.heap.size, 1, none⟩ = some (.int .i64 (y : Int)) := cell_later hb5 (by (first | assumption | exact cell_alloc (by assumption) _ | (simp [go_sem, *]; done))); go_wp2_with fail; refine Calls.mono (C4.out _) ?_; rintro e w6 ⟨rfl, hb6⟩; have hs6 := hb6.size; have p60 : w6.cell? ⟨w.heap.size, 0, none⟩ = some (.int .i64 (a : Int)) := cell_later hb6 (by (first | assumption | exact cell_alloc (by assumption) _ | (simp [go_sem, *]; done))); have p61 : w6.cell? ⟨w.heap.size, 1, none⟩ = some (.int .i64 (b : Int)) := cell_later hb6 (by (first | assumption | exact cell_alloc (by assumption) _ | (simp [go_sem, *]; done))); have r60 : w6.cell? ⟨w2.heap.size, 0, none⟩ = some (.int .i64 (x : Int)) := cell_later hb6 (by (first | assumption | exact cell_alloc (by assumption) _ | (simp [go_sem, *]; done))); have r61 : w6.cell? ⟨w2.heap.size, 1, none⟩ = some (.int .i64 (y : Int)) := cell_later hb6 (by (first | assumption | exact cell_alloc (by assumption) _ | (simp [go_sem, *]; done))); go_wp2_with fail; go_ret; exact retB rfl (by repeat (first | exact Below.refl _ _ | assumption | refine Below.drew ?_ | refine below_drewN ?_ _ | refine Below.alloc ?_ (by first | omega | (simp; done) | (simp; omega)) _ | refine Below.setCell ?_ (by first | omega | (simp; done) | (simp; omega)) _ | refine Below.trans ?_ (Below.mono (by assumption) (by first | omega | (simp; done) | (simp; omega))))))
  · have v1 : ((y : Int) == 0) = false := by simp; omega
    obtain ⟨z, hz⟩ : ∃ z : Nat, z = y - 1 := ⟨_, rfl⟩
    have hc2 : cmpV z n b m < 0 := by
      rw [hz]
      unfold cmpV
      rcases h10 with h10 | h10
      · omega
      · rw [if_pos h10]; omega
    obtain ⟨r2, hr2⟩ : ∃ r, cmpV z n b m = r := ⟨_, rfl⟩
    have C2 := Lib.hid (fun w => cmp_at (a := z) (b := n) (c := b) (d := m) (by omega) b2 b3 b4 (x := (y : Int) - 1) (by omega) hr2 w)
    have f2 : wrap64 ((y : Int) - 1) = (y : Int) - 1 := by unfold wrap64; omega
    have u2 : decide (r2 < (0 : Int)) = true := by rw [← hr2]; simpa using hc2
    clear h10 hy hz hc2 hr2
    go_enter Try.func4, Try.ntmps4
    go_wp2_with fail
    refine Calls.mono (head_any _) ?_
    rintro e w1 ⟨rfl, hb1⟩; have hs1 := hb1.size; (try simp at hs1)
    have _c0 : w1.cell? ⟨w.heap.size, 0, none⟩ = some (.int .i64 (a : Int)) := cell_later hb1 (by first | assumption | (simp [go_sem, *]; done) | exact cell_later' (by assumption) (by repeat (first | exact Below.refl _ _ | assumption | refine Below.drew ?_ | refine below_drewN ?_ _ | refine Below.alloc ?_ (by first | omega | (simp; done) | (simp; omega)) _ | refine Below.setCell ?_ (by first | omega | (simp; done) | (simp; omega)) _ | refine Below.trans ?_ (Below.mono (by assumption) (by first | omega | (simp; done) | (simp; omega)))))); have _f0 : w1.frozen? ⟨w.heap.size, 0, none⟩ = false := (hb1.frozen (p := ⟨w.heap.size, 0, none⟩) (by first | omega | (simp; done) | (simp; omega))).trans (by first | assumption | (simp [go_sem, *]; done) | exact frozen_later' (by assumption) (by first | omega | (simp; done) | (simp; omega)) (by repeat (first | exact Below.refl _ _ | assumption | refine Below.drew ?_ | refine below_drewN ?_ _ | refine Below.alloc ?_ (by first | omega | (simp; done) | (simp; omega)) _ | refine Below.setCell ?_ (by first | omega | (simp; done) | (simp; omega)) _ | refine Below.trans ?_ (Below.mono (by assumption) (by first | omega | (simp; done) | (simp; omega)))))); have _c1 : w1.cell? ⟨w.heap.size, 1, none⟩ = some (.int .i64 (b : Int)) := cell_later hb1 (by first | assumption | (simp [go_sem, *]; done) | exact cell_later' (by assumption) (by repeat (first | exact Below.refl _ _ | assumption | refine Below.drew ?_ | refine below_drewN ?_ _ | refine Below.alloc ?_ (by first | omega | (simp; done) | (simp; omega)) _ | refine Below.setCell ?_ (by first | omega | (simp; done) | (simp; omega)) _ | refine Below.trans ?_ (Below.mono (by assumption) (by first | omega | (simp; done) | (simp; omega)))))); have _f1 : w1.frozen? ⟨w.heap.size, 1, none⟩ = false := (hb1.frozen (p := ⟨w.heap.size, 1, none⟩) (by first | omega | (simp; done) | (simp; omega))).trans (by first | assumption | (simp [go_sem, *]; done) | exact frozen_later' (by assumption) (by first | omega | (simp; done) | (simp; omega)) (by repeat (first | exact Below.refl _ _ | assumption | refine Below.drew ?_ | refine below_drewN ?_ _ | refine Below.alloc ?_ (by first | omega | (simp; done) | (simp; omega)) _ | refine Below.setCell ?_ (by first | omega | (simp; done) | (simp; omega)) _ | refine Below.trans ?_ (Below.mono (by assumption) (by first | omega | (simp; done) | (simp; omega))))))
    go_wp2_with fail
    refine Calls.mono (x_of (scale_any _ _ _ _ _) H.out) ?_
    rintro e w2 ⟨rfl, hb2⟩
    have hs2 := hb2.size
    have l2 : w.heap.size < w2.heap.size := by omega
    have p20 : w2.cell? ⟨w.heap.size, 0, none⟩ = some (.int .i64 (a : Int)) := cell_later hb2 (by (first | assumption | exact cell_alloc (by assumption) _ | (simp [go_sem, *]; done))); have p21 : w2.cell? ⟨w.heap.size, 1, none⟩ = some (.int .i64 (b : Int)) := cell_later hb2 (by (first | assumption | exact cell_alloc (by assumption) _ | (simp [go_sem, *]; done)))
    go_wp2_with fail
    refine Calls.mono (C1.out _) ?_
    rintro e w3 ⟨rfl, hb3⟩
    have hs3 := hb3.size
    simp at hs3
    have l3 : w.heap.size < w3.heap.size := by omega
    have p30 : w3.cell? ⟨w.heap.size, 0, none⟩ = some (.int .i64 (a : Int)) := cell_later hb3 (by (first | assumption | exact cell_alloc (by assumption) _ | (simp [go_sem, *]; done))); have p31 : w3.cell? ⟨w.heap.size, 1, none⟩ = some (.int .i64 (b : Int)) := cell_later hb3 (by (first | assumption | exact cell_alloc (by assumption) _ | (simp [go_sem, *]; done))); have r30 : w3.cell? ⟨w2.heap.size, 0, none⟩ = some (.int .i64 (x : Int)) := cell_later hb3 (by (first | assumption | exact cell_alloc (by assumption) _ | (simp [go_sem, *]; done))); have r31 : w3.cell? ⟨w2.heap.size, 1, none⟩ = some (.int .i64 (y : Int)) := cell_later hb3 (by (first | assumption | exact cell_alloc (by assumption) _ | (simp [go_sem, *]; done)))
    go_wp2_with fail
    refine Calls.mono (C2.out _) ?_
    rintro e w4 ⟨rfl, hb4⟩
    have hs4 := hb4.size
    have p40 : w4.cell? ⟨w.heap.size, 0, none⟩ = some (.int .i64 (a : Int)) := cell_later hb4 (by (first | assumption | exact cell_alloc (by assumption) _ | (simp [go_sem, *]; done))); have p41 : w4.cell? ⟨w.heap.size, 1, none⟩ = some (.int .i64 (b : Int)) := cell_later hb4 (by (first | assumption | exact cell_alloc (by assumption) _ | (simp [go_sem, *]; done))); have r40 : w4.cell? ⟨w2.heap.size, 0, none⟩ = some (.int .i64 (x : Int)) := cell_later hb4 (by (first | assumption | exact cell_alloc (by assumption) _ | (simp [go_sem, *]; done))); have r41 : w4.cell? ⟨w2.heap.size, 1, none⟩ = some (.int .i64 (y : Int)) := cell_later hb4 (by (first | assumption | exact cell_alloc (by assumption) _ | (simp [go_sem, *]; done)))
    go_wp2_with fail
    (refine Calls.mono (C3.out _) ?_; rintro e w5 ⟨rfl, hb5⟩; have hs5 := hb5.size; have p50 : w5.cell? ⟨w.heap.size, 0, none⟩ = some (.int .i64 (a : Int)) := cell_later hb5 (by (first | assumption | exact cell_alloc (by assumption) _ | (simp [go_sem, *]; done))); have p51 : w5.cell? ⟨w.heap.size, 1, none⟩ = some (.int .i64 (b : Int)) := cell_later hb5 (by (first | assumption | exact cell_alloc (by assumption) _ | (simp [go_sem, *]; done))); have r50 : w5.cell? ⟨w2.heap.size, 0, none⟩ = some (.int .i64 (x : Int)) := cell_later hb5 (by (first | assumption | exact cell_alloc (by assumption) _ | (simp [go_sem, *]; done))); have r51 : w5.cell? ⟨w2.heap.size, 1, none⟩ = some (.int .i64 (y : Int)) := cell_later hb5 (by (first | assumption | exact cell_alloc (by assumption) _ | (simp [go_sem, *]; done))); go_wp2_with fail; refine Calls.mono (C4.out _) ?_; rintro e w6 ⟨rfl, hb6⟩; have hs6 := hb6.size; have p60 : w6.cell? ⟨w.heap.size, 0, none⟩ = some (.int .i64 (a : Int)) := cell_later hb6 (by (first | assumption | exact cell_alloc (by assumption) _ | (simp [go_sem, *]; done))); have p61 : w6.cell? ⟨w.heap.size, 1, none⟩ = some (.int .i64 (b : Int)) := cell_later hb6 (by (first | assumption | exact cell_alloc (by assumption) _ | (simp [go_sem, *]; done))); have r60 : w6.cell? ⟨w2.heap.size, 0, none⟩ = some (.int .i64 (x : Int)) := cell_later hb6 (by (first | assumption | exact cell_alloc (by assumption) _ | (simp [go_sem, *]; done))); have r61 : w6.cell? ⟨w2.heap.size, 1, none⟩ = some (.int .i64 (y : Int)) := cell_later hb6 (by (first | assumption | exact cell_alloc (by assumption) _ | (simp [go_sem, *]; done))); go_wp2_with fail; go_ret; exact retB rfl (by repeat (first | exact Below.refl _ _ | assumption | refine Below.drew ?_ | refine below_drewN ?_ _ | refine Below.alloc ?_ (by first | omega | (simp; done) | (simp; omega)) _ | refine Below.setCell ?_ (by first | omega | (simp; done) | (simp; omega)) _ | refine Below.trans ?_ (Below.mono (by assumption) (by first | omega | (simp; done) | (simp; omega))))))
theorem walk (a b : Int) (_ : (Lit.int .i64 a).wf = true) (_ : (Lit.int .i64 b).wf = true) (n : Int) (_ : -9223372036854775808 ≤ n ∧ n < 9223372036854775808) (m : Int) (_ : -9223372036854775808 ≤ m ∧ m < 9223372036854775808) (w : World) :
    Calls Try.prog 4 #[.agg #[.int .i64 a, .int .i64 b], .int .i64 n, .int .i64 m] w (RetB (.bool true) w) := by
  rcases sc_parts a b n m with ⟨e, he, h⟩ | ⟨A, B, N, M, x, y, rfl, rfl, rfl, rfl, _, h⟩
  · exact no a b n m e he h w
  · exact yes A B N M x y h w
end MigrateKeeps
namespace MigrateKeeps
set_option maxRecDepth 100000 in
theorem entry (H : Type) (enc : TypeId × Value → H) (W : World) (base : Nat) (args : Array Value) (ds : List (DataW H)) (p : List MemPlace)
    (hval : ∀ (j : Nat) t v, Try.f4.params[j]? = some t → args[j]? = some v → Value.okWide Try.prog W .any base t v)
    (hA : DataW.TrodAll enc Try.prog W 0 (fun _ => true) true Try.f4.params.toList args.toList ds p) :
    Calls Try.prog 4 args W (RetB (.bool true) W) := by
  rw [Try.params4] at hA hval
  obtain ⟨v0, vs0, d0, ds0, p0, q0, hargs, rfl, rfl, h0, r0⟩ := trodAll_cons hA
  obtain ⟨v1, vs1, d1, ds1, p1, q1, rfl, rfl, rfl, h1, r1⟩ := trodAll_cons r0
  obtain ⟨v2, vs2, d2, ds2, p2, q2, rfl, rfl, rfl, h2, r2⟩ := trodAll_cons r1
  obtain ⟨rfl, rfl, rfl⟩ := trodAll_nil r2
  obtain rfl : args = #[v0, v1, v2] := by cases args; simp_all
  obtain ⟨a0, a1, rfl, ax, ay⟩ := open_interval (hval 0 23 v0 rfl rfl) h0
  obtain ⟨n, rfl, no⟩ := open_i64 (hval 1 3 v1 rfl rfl) h1
  obtain ⟨m, rfl, mo⟩ := open_i64 (hval 2 3 v2 rfl rfl) h2
  exact walk a0 a1 ax ay n no m mo W
end MigrateKeeps
/-! The step from the walk to the row of MigrateKeeps. -/
namespace MigrateKeeps
set_option maxRecDepth 100000 in
theorem lifted (os : Os) (started : os.Started) (H : Type) (enc : TypeId × Value → H) :
    ReturnsInHanded {} Try.checked os 4 .any (Rows.migrateKeepsSpec.pre6 enc Try.prog Try.f4 Rows.migrateKeepsRow.domain false) (Rows.migrateKeepsSpec.post enc Try.prog Try.f4 false true false false) := by
  refine returnsInHanded_of_change (C := Try.checked) own started (by kernel_rfl) Try.func4
    (ChangeSpec.witness6 (enc := enc) (C := Try.checked) false ⟨#[], #[.agg #[.int .i64 0, .int .i64 0], .int .i64 0, .int .i64 0], []⟩ 8 (by kernel_rfl) (by kernel_rfl) (by kernel_rfl) (by kernel_rfl)) ?_
  intro W base args ds gs before hval0 hW hcnd _
  have hval : ∀ (j : Nat) t v, Try.f4.params[j]? = some t → args[j]? = some v → Value.okWide Try.prog W .any base t v := hval0
  have hW' := hW
  obtain ⟨p, q, hA0, hV, rfl, hfz, hnd⟩ := hW
  have hA : DataW.TrodAll enc Try.prog W 0 (fun _ => true) true Try.f4.params.toList args.toList ds p := hA0
  obtain ⟨rfl, rfl⟩ := trodVars_none hV
  have hlen := trodAll_len _ _ _ _ hA
  obtain ⟨d0, d1, d2, rfl⟩ : ∃ d0 d1 d2, ds = [d0, d1, d2] := by
    rw [Try.params4] at hlen
    exact list3 hlen
  refine (entry H enc W base args [d0, d1, d2] p hval hA).mono fun e W' ⟨he, bel⟩ => ?_
  subst he
  exact ⟨_, rfl, _, _, _, [], _, [], hW', trodAll_mk1 (shut_bool Try.underlying4 _), readback laidOut _ _ _ _ (by rw [Try.params4]; exact of_decide_eq_true (by kernel_rfl)) hA bel, rfl, bel.frame _, fun h => by cases h⟩

theorem over : Rows.migrateKeepsRow.holds Try.pinned (OpenSpec.ofChange Rows.migrateKeepsSpec) :=
  OpenClaim.holds_of_wide 4 Try.f4 rfl rfl rfl rfl rfl rfl rfl ⟨rfl, rfl, rfl, rfl, rfl⟩ rfl rfl rfl rfl rfl (by kernel_rfl) Try.func4 (by kernel_rfl)
    (of_decide_eq_true (by kernel_rfl)) (by unfold Func.isWrapper; first | (rw [if_pos (by decide +kernel)]; kernel_rfl) | (rw [if_neg (by decide +kernel)]; exact ⟨rfl, rfl⟩))
    (fun os started H enc _ => lifted os started H enc)

/-- THE STATEMENT -/
theorem proved : Rows.MigrateKeepsSaid := over
end MigrateKeeps
#print axioms MigrateKeeps.proved
end Go.Proofs.Ytknfpdccidhhkaa
