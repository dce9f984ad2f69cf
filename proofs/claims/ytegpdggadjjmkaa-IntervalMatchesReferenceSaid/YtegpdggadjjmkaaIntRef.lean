

/- IntervalMatchesReference: for every two intervals, number and truth values, all functions agree with the reference: the call of the law returns true, for every input. -/
import Derived.Test.YtegpdggadjjmkaaIntOpen
import Derived.Test.YtegpdggadjjmkaaIntM
namespace Go.Proofs.Ytegpdggadjjmkaa
open Go.ChangeShapes Go.WideShapes Go.ChangeAt Go.RowKit Go.Joins

namespace IntervalMatchesReference
theorem v_of {f : FuncId} {x y : Value} {args : Array Value} {w : World} (h : Calls Try.prog f args w (RetB x w)) (e : x = y) : Calls Try.prog f args w (RetB y w) := e ▸ h

set_option maxHeartbeats 8000000 in
set_option maxRecDepth 100000 in
theorem law (a b c d n p q l1 h1 l2 h2 l3 h3 l4 h4 : Int) (w : World)
    (e1 : op4 (fun x y => sat (x + y)) a b c d = .agg #[.int .i64 l1, .int .i64 h1]) (e1' : (if vld a b = true ∧ vld c d = true then Value.agg #[.int .i64 (sat (a + c)), .int .i64 (sat (b + d))] else .agg #[.int .i64 0, .int .i64 0]) = .agg #[.int .i64 l1, .int .i64 h1])
    (e2 : op4 (fun x y => sat (x - y)) a b c d = .agg #[.int .i64 l2, .int .i64 h2]) (e2' : (if vld a b = true ∧ vld c d = true then Value.agg #[.int .i64 (sat (a - d)), .int .i64 (sat (b - c))] else .agg #[.int .i64 0, .int .i64 0]) = .agg #[.int .i64 l2, .int .i64 h2])
    (e3 : op4 (fun x y => sat (x * y)) a b c d = .agg #[.int .i64 l3, .int .i64 h3])
    (e4 : joinV a b c d = .agg #[.int .i64 l4, .int .i64 h4]) (e4' : (if vld a b = true ∧ vld c d = true then Value.agg #[.int .i64 (min a c), .int .i64 (max b d)] else .agg #[.int .i64 0, .int .i64 0]) = .agg #[.int .i64 l4, .int .i64 h4]) :
    Calls Try.prog 9 #[.agg #[.int .i64 a, .int .i64 b], .agg #[.int .i64 c, .int .i64 d], .int .i64 n, .int .i64 p, .int .i64 q] w (RetB (.bool true) w) := by
  have E1 := Lib.hid (fun w => v_of (add_any a b c d w) e1)
  have E1' := Lib.hid (fun w => v_of (radd_any a b c d w) e1')
  have E2 := Lib.hid (fun w => v_of (sub_any a b c d w) e2)
  have E2' := Lib.hid (fun w => v_of (rsub_any a b c d w) e2')
  have E3 := Lib.hid (fun w => v_of (mul_any a b c d w) e3)
  have E3' := Lib.hid (fun w => v_of (rmul_any a b c d w) e3)
  have E4 := Lib.hid (fun w => v_of (join_any a b c d w) e4)
  have E4' := Lib.hid (fun w => v_of (rjoin_any a b c d w) e4')
  clear e1 e1' e2 e2' e3 e4 e4'
  go_enter Try.func9, Try.ntmps9
  go_wp2_with fail; refine Calls.mono (head_any _) ?_; (rintro er w1 ⟨rfl, hb1⟩; have hs1 := hb1.size; (try simp at hs1); have _c0 : w1.cell? ⟨w.heap.size, 0, none⟩ = some (.int .i64 a) := cell_later hb1 (by first | assumption | (simp [go_sem, *]; done) | exact cell_later' (by assumption) (by repeat (first | exact Below.refl _ _ | assumption | refine Below.drew ?_ | refine Below.alloc ?_ (by first | omega | (simp; done) | (simp; omega)) _ | refine Below.setCell ?_ (by first | omega | (simp; done) | (simp; omega)) _ | refine Below.trans ?_ (Below.mono (by assumption) (by first | omega | (simp; done) | (simp; omega)))))); have _f0 : w1.frozen? ⟨w.heap.size, 0, none⟩ = false := (hb1.frozen (p := ⟨w.heap.size, 0, none⟩) (by first | omega | (simp; done) | (simp; omega))).trans (by first | assumption | (simp [go_sem, *]; done) | exact frozen_later' (by assumption) (by first | omega | (simp; done) | (simp; omega)) (by repeat (first | exact Below.refl _ _ | assumption | refine Below.drew ?_ | refine Below.alloc ?_ (by first | omega | (simp; done) | (simp; omega)) _ | refine Below.setCell ?_ (by first | omega | (simp; done) | (simp; omega)) _ | refine Below.trans ?_ (Below.mono (by assumption) (by first | omega | (simp; done) | (simp; omega)))))); have _c1 : w1.cell? ⟨w.heap.size, 1, none⟩ = some (.int .i64 b) := cell_later hb1 (by first | assumption | (simp [go_sem, *]; done) | exact cell_later' (by assumption) (by repeat (first | exact Below.refl _ _ | assumption | refine Below.drew ?_ | refine Below.alloc ?_ (by first | omega | (simp; done) | (simp; omega)) _ | refine Below.setCell ?_ (by first | omega | (simp; done) | (simp; omega)) _ | refine Below.trans ?_ (Below.mono (by assumption) (by first | omega | (simp; done) | (simp; omega)))))); have _f1 : w1.frozen? ⟨w.heap.size, 1, none⟩ = false := (hb1.frozen (p := ⟨w.heap.size, 1, none⟩) (by first | omega | (simp; done) | (simp; omega))).trans (by first | assumption | (simp [go_sem, *]; done) | exact frozen_later' (by assumption) (by first | omega | (simp; done) | (simp; omega)) (by repeat (first | exact Below.refl _ _ | assumption | refine Below.drew ?_ | refine Below.alloc ?_ (by first | omega | (simp; done) | (simp; omega)) _ | refine Below.setCell ?_ (by first | omega | (simp; done) | (simp; omega)) _ | refine Below.trans ?_ (Below.mono (by assumption) (by first | omega | (simp; done) | (simp; omega)))))); have _c0 : w1.cell? ⟨w.heap.size + 1, 0, none⟩ = some (.int .i64 c) := cell_later hb1 (by first | assumption | (simp [go_sem, *]; done) | exact cell_later' (by assumption) (by repeat (first | exact Below.refl _ _ | assumption | refine Below.drew ?_ | refine Below.alloc ?_ (by first | omega | (simp; done) | (simp; omega)) _ | refine Below.setCell ?_ (by first | omega | (simp; done) | (simp; omega)) _ | refine Below.trans ?_ (Below.mono (by assumption) (by first | omega | (simp; done) | (simp; omega)))))); have _f0 : w1.frozen? ⟨w.heap.size + 1, 0, none⟩ = false := (hb1.frozen (p := ⟨w.heap.size + 1, 0, none⟩) (by first | omega | (simp; done) | (simp; omega))).trans (by first | assumption | (simp [go_sem, *]; done) | exact frozen_later' (by assumption) (by first | omega | (simp; done) | (simp; omega)) (by repeat (first | exact Below.refl _ _ | assumption | refine Below.drew ?_ | refine Below.alloc ?_ (by first | omega | (simp; done) | (simp; omega)) _ | refine Below.setCell ?_ (by first | omega | (simp; done) | (simp; omega)) _ | refine Below.trans ?_ (Below.mono (by assumption) (by first | omega | (simp; done) | (simp; omega)))))); have _c1 : w1.cell? ⟨w.heap.size + 1, 1, none⟩ = some (.int .i64 d) := cell_later hb1 (by first | assumption | (simp [go_sem, *]; done) | exact cell_later' (by assumption) (by repeat (first | exact Below.refl _ _ | assumption | refine Below.drew ?_ | refine Below.alloc ?_ (by first | omega | (simp; done) | (simp; omega)) _ | refine Below.setCell ?_ (by first | omega | (simp; done) | (simp; omega)) _ | refine Below.trans ?_ (Below.mono (by assumption) (by first | omega | (simp; done) | (simp; omega)))))); have _f1 : w1.frozen? ⟨w.heap.size + 1, 1, none⟩ = false := (hb1.frozen (p := ⟨w.heap.size + 1, 1, none⟩) (by first | omega | (simp; done) | (simp; omega))).trans (by first | assumption | (simp [go_sem, *]; done) | exact frozen_later' (by assumption) (by first | omega | (simp; done) | (simp; omega)) (by repeat (first | exact Below.refl _ _ | assumption | refine Below.drew ?_ | refine Below.alloc ?_ (by first | omega | (simp; done) | (simp; omega)) _ | refine Below.setCell ?_ (by first | omega | (simp; done) | (simp; omega)) _ | refine Below.trans ?_ (Below.mono (by assumption) (by first | omega | (simp; done) | (simp; omega)))))))
  go_wp2_with fail
  go_region_held3 (fun wx => wx.cell? ⟨w.heap.size, 0, none⟩ = some (.int .i64 a) ∧ wx.cell? ⟨w.heap.size, 1, none⟩ = some (.int .i64 b) ∧ wx.cell? ⟨w.heap.size + 1, 0, none⟩ = some (.int .i64 c) ∧ wx.cell? ⟨w.heap.size + 1, 1, none⟩ = some (.int .i64 d)) ((repeat' apply And.intro) <;> first | assumption | (simp [go_sem, *]; done) | exact cell_later hb1 (by simp [go_sem, *]) | exact cell_later' (by assumption) (by repeat (first | exact Below.refl _ _ | assumption | refine Below.drew ?_ | refine Below.alloc ?_ (by first | omega | (simp; done) | (simp; omega)) _ | refine Below.setCell ?_ (by first | omega | (simp; done) | (simp; omega)) _ | refine Below.trans ?_ (Below.mono (by assumption) (by first | omega | (simp; done) | (simp; omega)))))) ((first | (go_at_call 11; refine Calls.mono (valid_any _ _ _) ?_; rintro e w1 ⟨rfl, hb1⟩; have hs1 := hb1.size; (try simp at hs1)) | (go_at_call 17; refine Calls.mono (rvalid_any _ _ _) ?_; rintro e w1 ⟨rfl, hb1⟩; have hs1 := hb1.size; (try simp at hs1)) | (go_at_call 18; refine Calls.mono (E1.out _) ?_; rintro e w1 ⟨rfl, hb1⟩; have hs1 := hb1.size; (try simp at hs1)) | (go_at_call 26; refine Calls.mono (E1'.out _) ?_; rintro e w1 ⟨rfl, hb1⟩; have hs1 := hb1.size; (try simp at hs1)) | (go_at_call 19; refine Calls.mono (E2.out _) ?_; rintro e w1 ⟨rfl, hb1⟩; have hs1 := hb1.size; (try simp at hs1)) | (go_at_call 27; refine Calls.mono (E2'.out _) ?_; rintro e w1 ⟨rfl, hb1⟩; have hs1 := hb1.size; (try simp at hs1)) | (go_at_call 20; refine Calls.mono (E3.out _) ?_; rintro e w1 ⟨rfl, hb1⟩; have hs1 := hb1.size; (try simp at hs1)) | (go_at_call 28; refine Calls.mono (E3'.out _) ?_; rintro e w1 ⟨rfl, hb1⟩; have hs1 := hb1.size; (try simp at hs1)) | (go_at_call 21; refine Calls.mono (E4.out _) ?_; rintro e w1 ⟨rfl, hb1⟩; have hs1 := hb1.size; (try simp at hs1)) | (go_at_call 29; refine Calls.mono (E4'.out _) ?_; rintro e w1 ⟨rfl, hb1⟩; have hs1 := hb1.size; (try simp at hs1))))
  go_wp2_with fail
  go_region_held3 (fun wx => wx.cell? ⟨w.heap.size, 0, none⟩ = some (.int .i64 a) ∧ wx.cell? ⟨w.heap.size, 1, none⟩ = some (.int .i64 b) ∧ wx.cell? ⟨w.heap.size + 1, 0, none⟩ = some (.int .i64 c) ∧ wx.cell? ⟨w.heap.size + 1, 1, none⟩ = some (.int .i64 d)) ((repeat' apply And.intro) <;> first | assumption | (simp [go_sem, *]; done) | exact cell_later hb1 (by simp [go_sem, *]) | exact cell_later' (by assumption) (by repeat (first | exact Below.refl _ _ | assumption | refine Below.drew ?_ | refine Below.alloc ?_ (by first | omega | (simp; done) | (simp; omega)) _ | refine Below.setCell ?_ (by first | omega | (simp; done) | (simp; omega)) _ | refine Below.trans ?_ (Below.mono (by assumption) (by first | omega | (simp; done) | (simp; omega)))))) ((first | (go_at_call 12; refine Calls.mono (over_any _ _ _ _) ?_; rintro e w1 ⟨rfl, hb1⟩; have hs1 := hb1.size; (try simp at hs1)) | (go_at_call 30; refine Calls.mono (rover_any _ _ _ _) ?_; rintro e w1 ⟨rfl, hb1⟩; have hs1 := hb1.size; (try simp at hs1)) | (go_at_call 15; refine Calls.mono (not_any _ _) ?_; rintro e w1 ⟨rfl, rfl⟩) | (go_at_call 31; refine Calls.mono (rnot_any _ _) ?_; rintro e w1 ⟨rfl, rfl⟩) | (go_at_call 13; refine Calls.mono (and_any _ _ _) ?_; rintro e w1 ⟨rfl, rfl⟩) | (go_at_call 32; refine Calls.mono (rand_any _ _ _) ?_; rintro e w1 ⟨rfl, rfl⟩) | (go_at_call 14; refine Calls.mono (or_any _ _ _) ?_; rintro e w1 ⟨rfl, rfl⟩) | (go_at_call 33; refine Calls.mono (ror_any _ _ _) ?_; rintro e w1 ⟨rfl, rfl⟩)))
  go_wp2_with fail
  go_ret
  exact retB rfl (by repeat (first | exact Below.refl _ _ | assumption | refine Below.drew ?_ | refine Below.alloc ?_ (by first | omega | (simp; done) | (simp; omega)) _ | refine Below.setCell ?_ (by first | omega | (simp; done) | (simp; omega)) _ | refine Below.trans ?_ (Below.mono (by assumption) (by first | omega | (simp; done) | (simp; omega)))))

theorem walk (a b c d n p q : Int) (w : World) : Calls Try.prog 9 #[.agg #[.int .i64 a, .int .i64 b], .agg #[.int .i64 c, .int .i64 d], .int .i64 n, .int .i64 p, .int .i64 q] w (RetB (.bool true) w) := by
  by_cases h : vld a b = true ∧ vld c d = true
  · obtain ⟨i1, i2, i3⟩ := vld_iff.1 h.1
    obtain ⟨i4, i5, i6⟩ := vld_iff.1 h.2
    refine law a b c d n p q (sat (a + c)) (sat (b + d)) (sat (a - d)) (sat (b - c)) (mulL a b c d) (mulH a b c d) (min a c) (max b d) w ?_ (if_pos h) ?_ (if_pos h) (op4_yes h.1 h.2) ?_ (if_pos h)
    · rw [op4_yes h.1 h.2]
      exact vagg2 (by rw [mn4_sat]; congr 1; unfold mn4; omega) (by rw [mx4_sat]; congr 1; unfold mx4; omega)
    · rw [op4_yes h.1 h.2]
      exact vagg2 (by rw [mn4_sat]; congr 1; unfold mn4; omega) (by rw [mx4_sat]; congr 1; unfold mx4; omega)
    · unfold joinV
      rw [if_pos h]
      exact vagg2 (by unfold mn4; omega) (by unfold mx4; omega)
  · have e : ∀ f, op4 f a b c d = .agg #[.int .i64 0, .int .i64 0] := fun f => by unfold op4; rw [if_neg h]
    exact law a b c d n p q 0 0 0 0 0 0 0 0 w (e _) (if_neg h) (e _) (if_neg h) (e _) (by unfold joinV; rw [if_neg h]) (if_neg h)
end IntervalMatchesReference
namespace IntervalMatchesReference
set_option maxRecDepth 100000 in
theorem entry (H : Type) (enc : TypeId × Value → H) (W : World) (base : Nat) (args : Array Value) (ds : List (DataW H)) (p : List MemPlace)
    (hval : ∀ (j : Nat) t v, Try.f9.params[j]? = some t → args[j]? = some v → Value.okWide Try.prog W .any base t v)
    (hA : DataW.TrodAll enc Try.prog W 0 (fun _ => true) true Try.f9.params.toList args.toList ds p) :
    Calls Try.prog 9 args W (RetB (.bool true) W) := by
  rw [Try.params9] at hA hval
  obtain ⟨v0, vs0, d0, ds0, p0, q0, hargs, rfl, rfl, h0, r0⟩ := trodAll_cons hA
  obtain ⟨v1, vs1, d1, ds1, p1, q1, rfl, rfl, rfl, h1, r1⟩ := trodAll_cons r0
  obtain ⟨v2, vs2, d2, ds2, p2, q2, rfl, rfl, rfl, h2, r2⟩ := trodAll_cons r1
  obtain ⟨v3, vs3, d3, ds3, p3, q3, rfl, rfl, rfl, h3, r3⟩ := trodAll_cons r2
  obtain ⟨v4, vs4, d4, ds4, p4, q4, rfl, rfl, rfl, h4, r4⟩ := trodAll_cons r3
  obtain ⟨rfl, rfl, rfl⟩ := trodAll_nil r4
  obtain rfl : args = #[v0, v1, v2, v3, v4] := by cases args; simp_all
  obtain ⟨a0, a1, rfl, _, _⟩ := open_interval (hval 0 23 v0 rfl rfl) h0
  obtain ⟨b0, b1, rfl, _, _⟩ := open_interval (hval 1 23 v1 rfl rfl) h1
  obtain ⟨n, rfl, rfl, rfl, _⟩ := open_int Try.underlying3 (hval 2 3 v2 rfl rfl) h2
  obtain ⟨p, rfl, rfl, rfl, _⟩ := open_int Try.underlying26 (hval 3 26 v3 rfl rfl) h3
  obtain ⟨q, rfl, rfl, rfl, _⟩ := open_int Try.underlying26 (hval 4 26 v4 rfl rfl) h4
  exact walk a0 a1 b0 b1 n p q W
end IntervalMatchesReference
/-! The step from the walk to the row of IntervalMatchesReference. -/
namespace IntervalMatchesReference
set_option maxRecDepth 100000 in
theorem lifted (os : Os) (started : os.Started) (H : Type) (enc : TypeId × Value → H) :
    ReturnsInHanded {} Try.checked os 9 .any (Rows.intervalMatchesReferenceSpec.pre6 enc Try.prog Try.f9 Rows.intervalMatchesReferenceRow.domain false) (Rows.intervalMatchesReferenceSpec.post enc Try.prog Try.f9 false true false false) := by
  refine returnsInHanded_of_change (C := Try.checked) own started (by kernel_rfl) Try.func9
    (ChangeSpec.witness6 (enc := enc) (C := Try.checked) false ⟨#[], #[.agg #[.int .i64 0, .int .i64 0], .agg #[.int .i64 0, .int .i64 0], .int .i64 0, .int .i64 0, .int .i64 0], []⟩ 8 (by kernel_rfl) (by kernel_rfl) (by kernel_rfl) (by kernel_rfl)) ?_
  intro W base args ds gs before hval0 hW hcnd _
  have hval : ∀ (j : Nat) t v, Try.f9.params[j]? = some t → args[j]? = some v → Value.okWide Try.prog W .any base t v := hval0
  have hW' := hW
  obtain ⟨p, q, hA0, hV, rfl, hfz, hnd⟩ := hW
  have hA : DataW.TrodAll enc Try.prog W 0 (fun _ => true) true Try.f9.params.toList args.toList ds p := hA0
  obtain ⟨rfl, rfl⟩ := trodVars_none hV
  have hlen := trodAll_len _ _ _ _ hA
  obtain ⟨d0, d1, d2, d3, d4, rfl⟩ : ∃ d0 d1 d2 d3 d4, ds = [d0, d1, d2, d3, d4] := by
    rw [Try.params9] at hlen
    exact list5 hlen
  refine (entry H enc W base args [d0, d1, d2, d3, d4] p hval hA).mono fun e W' ⟨he, bel⟩ => ?_
  subst he
  exact ⟨_, rfl, _, _, _, [], _, [], hW', trodAll_mk1 (shut_bool Try.underlying4 _), readback laidOut _ _ _ _ (by rw [Try.params9]; exact of_decide_eq_true (by kernel_rfl)) hA bel, rfl, bel.frame _, fun h => by cases h⟩

theorem over : Rows.intervalMatchesReferenceRow.holds Try.pinned (OpenSpec.ofChange Rows.intervalMatchesReferenceSpec) :=
  OpenClaim.holds_of_wide 9 Try.f9 rfl rfl rfl rfl rfl rfl rfl ⟨rfl, rfl, rfl, rfl, rfl⟩ rfl rfl rfl rfl rfl (by kernel_rfl) Try.func9 (by kernel_rfl)
    (of_decide_eq_true (by kernel_rfl)) (by unfold Func.isWrapper; first | (rw [if_pos (by decide +kernel)]; kernel_rfl) | (rw [if_neg (by decide +kernel)]; exact ⟨rfl, rfl⟩))
    (fun os started H enc _ => lifted os started H enc)

/-- THE STATEMENT -/
theorem proved : Rows.IntervalMatchesReferenceSaid := over
end IntervalMatchesReference
#print axioms IntervalMatchesReference.proved
end Go.Proofs.Ytegpdggadjjmkaa
