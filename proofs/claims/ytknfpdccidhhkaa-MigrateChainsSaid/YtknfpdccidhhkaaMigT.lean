

/- The head of the laws: the chapter's examples. -/
import Derived.Test.YtknfpdccidhhkaaMigI
import Derived.Test.YtknfpdccidhhkaaFlowS
namespace Go.Proofs.Ytknfpdccidhhkaa
open Go.RowKit

theorem ex_sc : scX 100 101 300 10 = (3, 4, 0) := by decide +kernel
theorem ex_ch : chX 50 50 [100, 3, 100] = (33, 67, 0) := by decide +kernel
theorem ex_lf : lfX 90 130 100 = (0, 10, 0) := by decide +kernel
theorem ints3 (w : World) (x0 x1 x2 : Int) (t : TypeId) : Ints (w.alloc (Obj.cells #[.int .i64 x0, .int .i64 x1, .int .i64 x2] t)) (some ⟨w.heap.size, 0, none⟩) [x0, x1, x2] := fun j hj => by
  refine ⟨_, 0, rfl, ?_⟩
  rcases j with _ | _ | _ | j
  · simp [go_sem, ig]
  · simp [go_sem, ig]
  · simp [go_sem, ig]
  · simp at hj; omega
set_option maxRecDepth 100000 in
set_option maxHeartbeats 4000000 in
theorem head_any (w : World) : Calls Try.prog 9 #[] w (RetB (.bool true) w) := by
  go_enter Try.func9, Try.ntmps9
  go_wp2_with fail
  refine Calls.mono (of_any 100 101 _) ?_
  rintro e w1 ⟨rfl, hb1⟩; have hs1 := hb1.size; (try simp at hs1)
  go_wp2_with fail
  have c1 := scale_any 100 101 300 10 w1
  rw [ex_sc] at c1
  refine Calls.mono c1 ?_
  clear c1
  rintro e w2 ⟨rfl, hb2⟩
  have hs2 := hb2.size
  go_wp2_with fail
  refine Calls.mono (of_any 50 50 _) ?_
  rintro e w3 ⟨rfl, hb3⟩
  have hs3 := hb3.size
  simp at hs3
  have a0 : w3.cell? ⟨w2.heap.size, 0, none⟩ = some (.int .i64 3) := cell_later hb3 (by (first | assumption | exact cell_alloc (by assumption) _ | (simp [go_sem, *]; done))); have a1 : w3.cell? ⟨w2.heap.size, 1, none⟩ = some (.int .i64 4) := cell_later hb3 (by (first | assumption | exact cell_alloc (by assumption) _ | (simp [go_sem, *]; done)))
  go_wp2_with fail
  have c2 := chain_any 50 50 (some ⟨w3.heap.size, 0, none⟩) 3 [100, 3, 100] _ (ints3 w3 100 3 100 3)
  rw [ex_ch] at c2
  refine Calls.mono c2 ?_
  clear c2
  rintro e w4 ⟨rfl, hb4⟩
  have hs4 := hb4.size
  simp at hs4
  have b0 : w4.cell? ⟨w2.heap.size, 0, none⟩ = some (.int .i64 3) := cell_later hb4 (by (first | assumption | exact cell_alloc (by assumption) _ | (simp [go_sem, *]; done))); have b1 : w4.cell? ⟨w2.heap.size, 1, none⟩ = some (.int .i64 4) := cell_later hb4 (by (first | assumption | exact cell_alloc (by assumption) _ | (simp [go_sem, *]; done)))
  go_wp2_with fail
  refine Calls.mono (of_any 90 130 _) ?_
  rintro e w5 ⟨rfl, hb5⟩
  have hs5 := hb5.size
  simp at hs5
  have c0 : w5.cell? ⟨w2.heap.size, 0, none⟩ = some (.int .i64 3) := cell_later hb5 (by (first | assumption | exact cell_alloc (by assumption) _ | (simp [go_sem, *]; done))); have c1 : w5.cell? ⟨w2.heap.size, 1, none⟩ = some (.int .i64 4) := cell_later hb5 (by (first | assumption | exact cell_alloc (by assumption) _ | (simp [go_sem, *]; done)))
  have d0 : w5.cell? ⟨w4.heap.size, 0, none⟩ = some (.int .i64 33) := cell_later hb5 (by (first | assumption | exact cell_alloc (by assumption) _ | (simp [go_sem, *]; done))); have d1 : w5.cell? ⟨w4.heap.size, 1, none⟩ = some (.int .i64 67) := cell_later hb5 (by (first | assumption | exact cell_alloc (by assumption) _ | (simp [go_sem, *]; done)))
  go_wp2_with fail
  have c3 := left_any 90 130 100 (by omega) w5
  rw [ex_lf] at c3
  refine Calls.mono c3 ?_
  clear c3
  rintro e w6 ⟨rfl, hb6⟩
  have hs6 := hb6.size
  have f0 : w6.cell? ⟨w2.heap.size, 0, none⟩ = some (.int .i64 3) := cell_later hb6 (by (first | assumption | exact cell_alloc (by assumption) _ | (simp [go_sem, *]; done))); have f1 : w6.cell? ⟨w2.heap.size, 1, none⟩ = some (.int .i64 4) := cell_later hb6 (by (first | assumption | exact cell_alloc (by assumption) _ | (simp [go_sem, *]; done)))
  have g0 : w6.cell? ⟨w4.heap.size, 0, none⟩ = some (.int .i64 33) := cell_later hb6 (by (first | assumption | exact cell_alloc (by assumption) _ | (simp [go_sem, *]; done))); have g1 : w6.cell? ⟨w4.heap.size, 1, none⟩ = some (.int .i64 67) := cell_later hb6 (by (first | assumption | exact cell_alloc (by assumption) _ | (simp [go_sem, *]; done)))
  go_wp2_with fail
  have hS : ∀ wx : World, Below (w6.alloc (Obj.cells #[.int .i64 0, .int .i64 10] 23)).heap.size (w6.alloc (Obj.cells #[.int .i64 0, .int .i64 10] 23)) wx → (wx.cell? ⟨w2.heap.size, 0, none⟩ = some (.int .i64 3) ∧ wx.cell? ⟨w2.heap.size, 1, none⟩ = some (.int .i64 4) ∧ wx.cell? ⟨w4.heap.size, 0, none⟩ = some (.int .i64 33) ∧ wx.cell? ⟨w4.heap.size, 1, none⟩ = some (.int .i64 67) ∧ wx.cell? ⟨w6.heap.size, 0, none⟩ = some (.int .i64 0) ∧ wx.cell? ⟨w6.heap.size, 1, none⟩ = some (.int .i64 10)) := by (intro wx hbx; (repeat' apply And.intro) <;> exact cell_later hbx (by (first | assumption | exact cell_alloc (by assumption) _ | (simp [go_sem, *]; done))))
  refine wp_flow_s [] [] (by kernel_rfl) (by kernel_rfl) (by kernel_rfl) ?_
  trace "a"
  repeat (first | ((with_reducible refine Flow.pure hS StayG.nil (v := ?_) ?_ ?_ ?_ ?_); rotate_left 1; (focus kernel_rfl); (focus (intro _; rfl)); (focus (intro β wx hSw; (try dsimp only at hSw); go_simp; (try with_reducible rfl); done)); (try simp only [Act.put, List.setIfInBounds_toArray, List.set_cons_zero, List.set_cons_succ, Nat.reduceAdd])) | ((with_reducible refine Flow.call hS StayG.nil (v := ?_) ?_ ?_ ?_ ?_); rotate_left 1; (focus kernel_rfl); (focus (intro _; rfl)); (focus (intro β L wx hI hat hSw K' hK; (try dsimp only at hSw); go_simp; go_at_call 16; refine Calls.mono (of_any _ _ _) ?_; rintro e w' ⟨rfl, hb'⟩; exact hK.out _ hb')); (try simp only [Act.put, List.setIfInBounds_toArray, List.set_cons_zero, List.set_cons_succ, Nat.reduceAdd])))
  ((with_reducible refine Flow.stop ?_); dsimp only; intro β w7 hI)
  have hb7 := hI.below
  go_wp2_with fail
  go_ret
  exact retB rfl (by repeat (first | exact Below.refl _ _ | assumption | refine Below.drew ?_ | refine below_drewN ?_ _ | refine Below.alloc ?_ (by first | omega | (simp; done) | (simp; omega)) _ | refine Below.setCell ?_ (by first | omega | (simp; done) | (simp; omega)) _ | refine Below.trans ?_ (Below.mono (by assumption) (by first | omega | (simp; done) | (simp; omega)))))
end Go.Proofs.Ytknfpdccidhhkaa
