


/- MigrateLeft: for every used life and limit, what is used and what is left add up to the limit: the call of the law returns true, for every input. -/
import Derived.Test.YtknfpdccidhhkaaMigOpen
import Derived.Test.YtknfpdccidhhkaaMigT
namespace Go.Proofs.Ytknfpdccidhhkaa
open Go.ChangeShapes Go.WideShapes Go.ChangeAt Go.RowKit Go.Joins

namespace MigrateLeft
theorem left_ok {a b n x y : Int} (h : lfX a b n = (x, y, 0)) : 0 ≤ a ∧ a ≤ b ∧ b ≤ 1000000000000 ∧ 1 ≤ n ∧ n ≤ 1000000000000 ∧ x = max 0 (n - b) ∧ y = max 0 (n - a) := by
  unfold lfX at h
  split at h
  · rename_i hc
    rw [Bool.and_eq_true] at hc
    obtain ⟨i1, i2, i3⟩ := usd_iff.1 hc.1
    obtain ⟨i4, i5⟩ := lmt_iff.1 hc.2
    simp only [Prod.mk.injEq] at h
    exact ⟨i1, i2, i3, i4, i5, h.1.symm, h.2.1.symm⟩
  · simp at h
theorem left_parts (a b n : Int) : lfX a b n = (0, 0, 1) ∨ ∃ x y, lfX a b n = (x, y, 0) := by
  unfold lfX
  split
  · exact .inr ⟨_, _, rfl⟩
  · exact .inl rfl
set_option maxRecDepth 100000 in
set_option maxHeartbeats 4000000 in
theorem no (a b n : Int) (hn : -9223372036854775808 ≤ n ∧ n < 9223372036854775808) (h : lfX a b n = (0, 0, 1)) (w : World) : Calls Try.prog 8 #[.agg #[.int .i64 a, .int .i64 b], .int .i64 n] w (RetB (.bool true) w) := by
  have H := Lib.hid h
  clear h
  go_enter Try.func8, Try.ntmps8
  go_wp2_with fail
  refine Calls.mono (head_any _) ?_
  rintro e w1 ⟨rfl, hb1⟩; have hs1 := hb1.size; (try simp at hs1)
  have _c0 : w1.cell? ⟨w.heap.size, 0, none⟩ = some (.int .i64 a) := cell_later hb1 (by first | assumption | (simp [go_sem, *]; done) | exact cell_later' (by assumption) (by repeat (first | exact Below.refl _ _ | assumption | refine Below.drew ?_ | refine below_drewN ?_ _ | refine Below.alloc ?_ (by first | omega | (simp; done) | (simp; omega)) _ | refine Below.setCell ?_ (by first | omega | (simp; done) | (simp; omega)) _ | refine Below.trans ?_ (Below.mono (by assumption) (by first | omega | (simp; done) | (simp; omega)))))); have _f0 : w1.frozen? ⟨w.heap.size, 0, none⟩ = false := (hb1.frozen (p := ⟨w.heap.size, 0, none⟩) (by first | omega | (simp; done) | (simp; omega))).trans (by first | assumption | (simp [go_sem, *]; done) | exact frozen_later' (by assumption) (by first | omega | (simp; done) | (simp; omega)) (by repeat (first | exact Below.refl _ _ | assumption | refine Below.drew ?_ | refine below_drewN ?_ _ | refine Below.alloc ?_ (by first | omega | (simp; done) | (simp; omega)) _ | refine Below.setCell ?_ (by first | omega | (simp; done) | (simp; omega)) _ | refine Below.trans ?_ (Below.mono (by assumption) (by first | omega | (simp; done) | (simp; omega)))))); have _c1 : w1.cell? ⟨w.heap.size, 1, none⟩ = some (.int .i64 b) := cell_later hb1 (by first | assumption | (simp [go_sem, *]; done) | exact cell_later' (by assumption) (by repeat (first | exact Below.refl _ _ | assumption | refine Below.drew ?_ | refine below_drewN ?_ _ | refine Below.alloc ?_ (by first | omega | (simp; done) | (simp; omega)) _ | refine Below.setCell ?_ (by first | omega | (simp; done) | (simp; omega)) _ | refine Below.trans ?_ (Below.mono (by assumption) (by first | omega | (simp; done) | (simp; omega)))))); have _f1 : w1.frozen? ⟨w.heap.size, 1, none⟩ = false := (hb1.frozen (p := ⟨w.heap.size, 1, none⟩) (by first | omega | (simp; done) | (simp; omega))).trans (by first | assumption | (simp [go_sem, *]; done) | exact frozen_later' (by assumption) (by first | omega | (simp; done) | (simp; omega)) (by repeat (first | exact Below.refl _ _ | assumption | refine Below.drew ?_ | refine below_drewN ?_ _ | refine Below.alloc ?_ (by first | omega | (simp; done) | (simp; omega)) _ | refine Below.setCell ?_ (by first | omega | (simp; done) | (simp; omega)) _ | refine Below.trans ?_ (Below.mono (by assumption) (by first | omega | (simp; done) | (simp; omega))))))
  go_wp2_with fail
  have c1 := left_any a b n hn w1
  rw [H.out] at c1
  refine Calls.mono c1 ?_
  clear c1
  rintro e w2 ⟨rfl, hb2⟩
  have hs2 := hb2.size
  go_wp2_with fail
  have hS : ∀ wx : World, Below (w2.alloc (Obj.cells #[.int .i64 0, .int .i64 0] 23)).heap.size (w2.alloc (Obj.cells #[.int .i64 0, .int .i64 0] 23)) wx → (wx.cell? ⟨w2.heap.size, 0, none⟩ = some (.int .i64 0) ∧ wx.cell? ⟨w2.heap.size, 1, none⟩ = some (.int .i64 0)) := by (intro wx hbx; (repeat' apply And.intro) <;> exact cell_later hbx (by (first | assumption | exact cell_alloc (by assumption) _ | (simp [go_sem, *]; done))))
  refine wp_flow_s [] [] (by kernel_rfl) (by kernel_rfl) (by kernel_rfl) ?_
  repeat (first | ((with_reducible refine Flow.pure hS StayG.nil (v := ?_) ?_ ?_ ?_ ?_); rotate_left 1; (focus kernel_rfl); (focus (intro _; rfl)); (focus (intro β wx hSw; (try dsimp only at hSw); go_simp; (try with_reducible rfl); done)); (try simp only [Act.put, List.setIfInBounds_toArray, List.set_cons_zero, List.set_cons_succ, Nat.reduceAdd])) | ((with_reducible refine Flow.call hS StayG.nil (v := ?_) ?_ ?_ ?_ ?_); rotate_left 1; (focus kernel_rfl); (focus (intro _; rfl)); (focus (intro β L wx hI hat hSw K' hK; (try dsimp only at hSw); go_simp; go_at_call 16; refine Calls.mono (of_any _ _ _) ?_; rintro e w' ⟨rfl, hb'⟩; exact hK.out _ hb')); (try simp only [Act.put, List.setIfInBounds_toArray, List.set_cons_zero, List.set_cons_succ, Nat.reduceAdd])))
  ((with_reducible refine Flow.stop ?_); dsimp only; intro β w3 hI)
  have hb3 := hI.below
  go_wp2_with fail
  go_ret
  exact retB rfl (by repeat (first | exact Below.refl _ _ | assumption | refine Below.drew ?_ | refine below_drewN ?_ _ | refine Below.alloc ?_ (by first | omega | (simp; done) | (simp; omega)) _ | refine Below.setCell ?_ (by first | omega | (simp; done) | (simp; omega)) _ | refine Below.trans ?_ (Below.mono (by assumption) (by first | omega | (simp; done) | (simp; omega)))))
set_option maxRecDepth 100000 in
set_option maxHeartbeats 4000000 in
theorem yes (a b n x y : Int) (hn : -9223372036854775808 ≤ n ∧ n < 9223372036854775808) (h : lfX a b n = (x, y, 0)) (w : World) : Calls Try.prog 8 #[.agg #[.int .i64 a, .int .i64 b], .int .i64 n] w (RetB (.bool true) w) := by
  obtain ⟨h1, h2, h3, h4, h5, h6, h7⟩ := left_ok h
  have H := Lib.hid h
  clear h
  have t1 : decide (x < 0) = false := by simp; omega
  have t2 : decide (y < x) = false := by simp; omega
  have t3 : decide (n < y) = false := by simp; omega
  have t4 : (y == 0) = decide (n ≤ a) := by rw [Bool.eq_iff_iff]; simp; omega
  have t5 : (x == 0) = decide (n ≤ b) := by rw [Bool.eq_iff_iff]; simp; omega
  have t6 : b ≤ n → x + b = n := by omega
  have t7 : b ≤ n → y + a = n := by omega
  have f1 : wrap64 (x + b) = x + b := by unfold wrap64; omega
  have f2 : wrap64 (y + a) = y + a := by unfold wrap64; omega
  have HN := Lib.hid hn
  clear h6 h7 hn h1 h2 h3 h4 h5
  obtain ⟨u, hu⟩ : ∃ u, u = x + b := ⟨_, rfl⟩
  obtain ⟨v, hv⟩ : ∃ v, v = y + a := ⟨_, rfl⟩
  have T6 := Lib.hid t6
  have T7 := Lib.hid t7
  clear t6 t7
  cases hbn : decide (b ≤ n)
  · clear hu hv
    go_enter Try.func8, Try.ntmps8
    go_wp2_with fail
    refine Calls.mono (head_any _) ?_
    rintro e w1 ⟨rfl, hb1⟩; have hs1 := hb1.size; (try simp at hs1)
    have _c0 : w1.cell? ⟨w.heap.size, 0, none⟩ = some (.int .i64 a) := cell_later hb1 (by first | assumption | (simp [go_sem, *]; done) | exact cell_later' (by assumption) (by repeat (first | exact Below.refl _ _ | assumption | refine Below.drew ?_ | refine below_drewN ?_ _ | refine Below.alloc ?_ (by first | omega | (simp; done) | (simp; omega)) _ | refine Below.setCell ?_ (by first | omega | (simp; done) | (simp; omega)) _ | refine Below.trans ?_ (Below.mono (by assumption) (by first | omega | (simp; done) | (simp; omega)))))); have _f0 : w1.frozen? ⟨w.heap.size, 0, none⟩ = false := (hb1.frozen (p := ⟨w.heap.size, 0, none⟩) (by first | omega | (simp; done) | (simp; omega))).trans (by first | assumption | (simp [go_sem, *]; done) | exact frozen_later' (by assumption) (by first | omega | (simp; done) | (simp; omega)) (by repeat (first | exact Below.refl _ _ | assumption | refine Below.drew ?_ | refine below_drewN ?_ _ | refine Below.alloc ?_ (by first | omega | (simp; done) | (simp; omega)) _ | refine Below.setCell ?_ (by first | omega | (simp; done) | (simp; omega)) _ | refine Below.trans ?_ (Below.mono (by assumption) (by first | omega | (simp; done) | (simp; omega)))))); have _c1 : w1.cell? ⟨w.heap.size, 1, none⟩ = some (.int .i64 b) := cell_later hb1 (by first | assumption | (simp [go_sem, *]; done) | exact cell_later' (by assumption) (by repeat (first | exact Below.refl _ _ | assumption | refine Below.drew ?_ | refine below_drewN ?_ _ | refine Below.alloc ?_ (by first | omega | (simp; done) | (simp; omega)) _ | refine Below.setCell ?_ (by first | omega | (simp; done) | (simp; omega)) _ | refine Below.trans ?_ (Below.mono (by assumption) (by first | omega | (simp; done) | (simp; omega)))))); have _f1 : w1.frozen? ⟨w.heap.size, 1, none⟩ = false := (hb1.frozen (p := ⟨w.heap.size, 1, none⟩) (by first | omega | (simp; done) | (simp; omega))).trans (by first | assumption | (simp [go_sem, *]; done) | exact frozen_later' (by assumption) (by first | omega | (simp; done) | (simp; omega)) (by repeat (first | exact Below.refl _ _ | assumption | refine Below.drew ?_ | refine below_drewN ?_ _ | refine Below.alloc ?_ (by first | omega | (simp; done) | (simp; omega)) _ | refine Below.setCell ?_ (by first | omega | (simp; done) | (simp; omega)) _ | refine Below.trans ?_ (Below.mono (by assumption) (by first | omega | (simp; done) | (simp; omega))))))
    go_wp2_with fail
    have c1 := left_any a b n HN.out w1
    rw [H.out] at c1
    refine Calls.mono c1 ?_
    clear c1
    rintro e w2 ⟨rfl, hb2⟩
    have hs2 := hb2.size
    have l2 : w.heap.size < w2.heap.size := by omega
    have p0 : w2.cell? ⟨w.heap.size, 0, none⟩ = some (.int .i64 a) := cell_later hb2 (by (first | assumption | exact cell_alloc (by assumption) _ | (simp [go_sem, *]; done))); have p1 : w2.cell? ⟨w.heap.size, 1, none⟩ = some (.int .i64 b) := cell_later hb2 (by (first | assumption | exact cell_alloc (by assumption) _ | (simp [go_sem, *]; done)))
    go_wp2_with fail
    go_ret
    exact retB (vbool (by simp [*])) (by repeat (first | exact Below.refl _ _ | assumption | refine Below.drew ?_ | refine below_drewN ?_ _ | refine Below.alloc ?_ (by first | omega | (simp; done) | (simp; omega)) _ | refine Below.setCell ?_ (by first | omega | (simp; done) | (simp; omega)) _ | refine Below.trans ?_ (Below.mono (by assumption) (by first | omega | (simp; done) | (simp; omega)))))
  · have e6 := T6.out (of_decide_eq_true hbn)
    have e7 := T7.out (of_decide_eq_true hbn)
    rw [e6] at f1
    rw [e7] at f2
    go_enter Try.func8, Try.ntmps8
    go_wp2_with fail
    refine Calls.mono (head_any _) ?_
    rintro e w1 ⟨rfl, hb1⟩; have hs1 := hb1.size; (try simp at hs1)
    have _c0 : w1.cell? ⟨w.heap.size, 0, none⟩ = some (.int .i64 a) := cell_later hb1 (by first | assumption | (simp [go_sem, *]; done) | exact cell_later' (by assumption) (by repeat (first | exact Below.refl _ _ | assumption | refine Below.drew ?_ | refine below_drewN ?_ _ | refine Below.alloc ?_ (by first | omega | (simp; done) | (simp; omega)) _ | refine Below.setCell ?_ (by first | omega | (simp; done) | (simp; omega)) _ | refine Below.trans ?_ (Below.mono (by assumption) (by first | omega | (simp; done) | (simp; omega)))))); have _f0 : w1.frozen? ⟨w.heap.size, 0, none⟩ = false := (hb1.frozen (p := ⟨w.heap.size, 0, none⟩) (by first | omega | (simp; done) | (simp; omega))).trans (by first | assumption | (simp [go_sem, *]; done) | exact frozen_later' (by assumption) (by first | omega | (simp; done) | (simp; omega)) (by repeat (first | exact Below.refl _ _ | assumption | refine Below.drew ?_ | refine below_drewN ?_ _ | refine Below.alloc ?_ (by first | omega | (simp; done) | (simp; omega)) _ | refine Below.setCell ?_ (by first | omega | (simp; done) | (simp; omega)) _ | refine Below.trans ?_ (Below.mono (by assumption) (by first | omega | (simp; done) | (simp; omega)))))); have _c1 : w1.cell? ⟨w.heap.size, 1, none⟩ = some (.int .i64 b) := cell_later hb1 (by first | assumption | (simp [go_sem, *]; done) | exact cell_later' (by assumption) (by repeat (first | exact Below.refl _ _ | assumption | refine Below.drew ?_ | refine below_drewN ?_ _ | refine Below.alloc ?_ (by first | omega | (simp; done) | (simp; omega)) _ | refine Below.setCell ?_ (by first | omega | (simp; done) | (simp; omega)) _ | refine Below.trans ?_ (Below.mono (by assumption) (by first | omega | (simp; done) | (simp; omega)))))); have _f1 : w1.frozen? ⟨w.heap.size, 1, none⟩ = false := (hb1.frozen (p := ⟨w.heap.size, 1, none⟩) (by first | omega | (simp; done) | (simp; omega))).trans (by first | assumption | (simp [go_sem, *]; done) | exact frozen_later' (by assumption) (by first | omega | (simp; done) | (simp; omega)) (by repeat (first | exact Below.refl _ _ | assumption | refine Below.drew ?_ | refine below_drewN ?_ _ | refine Below.alloc ?_ (by first | omega | (simp; done) | (simp; omega)) _ | refine Below.setCell ?_ (by first | omega | (simp; done) | (simp; omega)) _ | refine Below.trans ?_ (Below.mono (by assumption) (by first | omega | (simp; done) | (simp; omega))))))
    go_wp2_with fail
    have c1 := left_any a b n HN.out w1
    rw [H.out] at c1
    refine Calls.mono c1 ?_
    clear c1
    rintro e w2 ⟨rfl, hb2⟩
    have hs2 := hb2.size
    have l2 : w.heap.size < w2.heap.size := by omega
    have p0 : w2.cell? ⟨w.heap.size, 0, none⟩ = some (.int .i64 a) := cell_later hb2 (by (first | assumption | exact cell_alloc (by assumption) _ | (simp [go_sem, *]; done))); have p1 : w2.cell? ⟨w.heap.size, 1, none⟩ = some (.int .i64 b) := cell_later hb2 (by (first | assumption | exact cell_alloc (by assumption) _ | (simp [go_sem, *]; done)))
    go_wp2_with fail
    go_ret
    exact retB (vbool (by simp [*])) (by repeat (first | exact Below.refl _ _ | assumption | refine Below.drew ?_ | refine below_drewN ?_ _ | refine Below.alloc ?_ (by first | omega | (simp; done) | (simp; omega)) _ | refine Below.setCell ?_ (by first | omega | (simp; done) | (simp; omega)) _ | refine Below.trans ?_ (Below.mono (by assumption) (by first | omega | (simp; done) | (simp; omega)))))
theorem walk (a b : Int) (_ : (Lit.int .i64 a).wf = true) (_ : (Lit.int .i64 b).wf = true) (n : Int) (hn : -9223372036854775808 ≤ n ∧ n < 9223372036854775808) (w : World) :
    Calls Try.prog 8 #[.agg #[.int .i64 a, .int .i64 b], .int .i64 n] w (RetB (.bool true) w) := by
  rcases left_parts a b n with h | ⟨x, y, h⟩
  · exact no a b n hn h w
  · exact yes a b n x y hn h w
end MigrateLeft
namespace MigrateLeft
set_option maxRecDepth 100000 in
theorem entry (H : Type) (enc : TypeId × Value → H) (W : World) (base : Nat) (args : Array Value) (ds : List (DataW H)) (p : List MemPlace)
    (hval : ∀ (j : Nat) t v, Try.f8.params[j]? = some t → args[j]? = some v → Value.okWide Try.prog W .any base t v)
    (hA : DataW.TrodAll enc Try.prog W 0 (fun _ => true) true Try.f8.params.toList args.toList ds p) :
    Calls Try.prog 8 args W (RetB (.bool true) W) := by
  rw [Try.params8] at hA hval
  obtain ⟨v0, vs0, d0, ds0, p0, q0, hargs, rfl, rfl, h0, r0⟩ := trodAll_cons hA
  obtain ⟨v1, vs1, d1, ds1, p1, q1, rfl, rfl, rfl, h1, r1⟩ := trodAll_cons r0
  obtain ⟨rfl, rfl, rfl⟩ := trodAll_nil r1
  obtain rfl : args = #[v0, v1] := by cases args; simp_all
  obtain ⟨a0, a1, rfl, ax, ay⟩ := open_interval (hval 0 23 v0 rfl rfl) h0
  obtain ⟨n, rfl, no⟩ := open_i64 (hval 1 3 v1 rfl rfl) h1
  exact walk a0 a1 ax ay n no W
end MigrateLeft
/-! The step from the walk to the row of MigrateLeft. -/
namespace MigrateLeft
set_option maxRecDepth 100000 in
theorem lifted (os : Os) (started : os.Started) (H : Type) (enc : TypeId × Value → H) :
    ReturnsInHanded {} Try.checked os 8 .any (Rows.migrateLeftSpec.pre6 enc Try.prog Try.f8 Rows.migrateLeftRow.domain false) (Rows.migrateLeftSpec.post enc Try.prog Try.f8 false true false false) := by
  refine returnsInHanded_of_change (C := Try.checked) own started (by kernel_rfl) Try.func8
    (ChangeSpec.witness6 (enc := enc) (C := Try.checked) false ⟨#[], #[.agg #[.int .i64 0, .int .i64 0], .int .i64 0], []⟩ 8 (by kernel_rfl) (by kernel_rfl) (by kernel_rfl) (by kernel_rfl)) ?_
  intro W base args ds gs before hval0 hW hcnd _
  have hval : ∀ (j : Nat) t v, Try.f8.params[j]? = some t → args[j]? = some v → Value.okWide Try.prog W .any base t v := hval0
  have hW' := hW
  obtain ⟨p, q, hA0, hV, rfl, hfz, hnd⟩ := hW
  have hA : DataW.TrodAll enc Try.prog W 0 (fun _ => true) true Try.f8.params.toList args.toList ds p := hA0
  obtain ⟨rfl, rfl⟩ := trodVars_none hV
  have hlen := trodAll_len _ _ _ _ hA
  obtain ⟨d0, d1, rfl⟩ : ∃ d0 d1, ds = [d0, d1] := by
    rw [Try.params8] at hlen
    exact list2 hlen
  refine (entry H enc W base args [d0, d1] p hval hA).mono fun e W' ⟨he, bel⟩ => ?_
  subst he
  exact ⟨_, rfl, _, _, _, [], _, [], hW', trodAll_mk1 (shut_bool Try.underlying4 _), readback laidOut _ _ _ _ (by rw [Try.params8]; exact of_decide_eq_true (by kernel_rfl)) hA bel, rfl, bel.frame _, fun h => by cases h⟩

theorem over : Rows.migrateLeftRow.holds Try.pinned (OpenSpec.ofChange Rows.migrateLeftSpec) :=
  OpenClaim.holds_of_wide 8 Try.f8 rfl rfl rfl rfl rfl rfl rfl ⟨rfl, rfl, rfl, rfl, rfl⟩ rfl rfl rfl rfl rfl (by kernel_rfl) Try.func8 (by kernel_rfl)
    (of_decide_eq_true (by kernel_rfl)) (by unfold Func.isWrapper; first | (rw [if_pos (by decide +kernel)]; kernel_rfl) | (rw [if_neg (by decide +kernel)]; exact ⟨rfl, rfl⟩))
    (fun os started H enc _ => lifted os started H enc)

/-- THE STATEMENT -/
theorem proved : Rows.MigrateLeftSaid := over
end MigrateLeft
#print axioms MigrateLeft.proved
end Go.Proofs.Ytknfpdccidhhkaa
