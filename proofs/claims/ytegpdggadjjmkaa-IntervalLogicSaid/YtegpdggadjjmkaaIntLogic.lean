

/- IntervalLogic: for every three truth values the laws of And, Or and Not hold: the call of the law returns true, for every input. -/
import Derived.Test.YtegpdggadjjmkaaLift
import Derived.Test.YtegpdggadjjmkaaIntE
namespace Go.Proofs.Ytegpdggadjjmkaa
open Go.ChangeShapes Go.WideShapes Go.ChangeAt Go.RowKit Go.Joins

namespace IntervalLogic
/-- a counts as x -/
def T (a x : Int) : Prop := tru a = x
theorem T.self {x : Int} (h0 : 0 ≤ x) (h2 : x ≤ 2) : T x x := by unfold T tru; split <;> (try split) <;> omega
theorem and_r {a b x y : Int} (h : T a x) (h' : T b y) (w : World) : Calls Try.prog 13 #[.int .i64 a, .int .i64 b] w (RetS (.int .i64 (min x y)) w) := by
  have := and_any a b w; rwa [h, h'] at this
theorem or_r {a b x y : Int} (h : T a x) (h' : T b y) (w : World) : Calls Try.prog 14 #[.int .i64 a, .int .i64 b] w (RetS (.int .i64 (max x y)) w) := by
  have := or_any a b w; rwa [h, h'] at this
theorem not_r {a x : Int} (h : T a x) (w : World) : Calls Try.prog 15 #[.int .i64 a] w (RetS (.int .i64 (2 - x)) w) := by
  have := not_any a w; rwa [h] at this

set_option maxHeartbeats 4000000 in
set_option maxRecDepth 100000 in
theorem law (a b c x y z : Int) (w : World) (ta : T a x) (tb : T b y) (tc : T c z) (x0 : 0 ≤ x) (x2 : x ≤ 2) (y0 : 0 ≤ y) (y2 : y ≤ 2) (z0 : 0 ≤ z) (z2 : z ≤ 2)
    (ha : (a = 2 ∧ x = 2) ∨ (a = 0 ∧ x = 0) ∨ (a ≠ 0 ∧ a ≠ 2 ∧ x = 1)) : Calls Try.prog 4 #[.int .i64 a, .int .i64 b, .int .i64 c] w (RetB (.bool true) w) := by
  go_enter Try.func4, Try.ntmps4
  go_wp2_with fail
  refine Calls.mono (head_any _) ?_
  rintro e w1 ⟨rfl, hb1⟩; have hs1 := hb1.size; (try simp at hs1)
  go_wp2_with (first | (go_at_call 13; refine Calls.mono (and_r (by first | assumption | exact T.self (by omega) (by omega)) (by first | assumption | exact T.self (by omega) (by omega)) _) ?_; rintro e w1 ⟨rfl, rfl⟩) | (go_at_call 14; refine Calls.mono (or_r (by first | assumption | exact T.self (by omega) (by omega)) (by first | assumption | exact T.self (by omega) (by omega)) _) ?_; rintro e w1 ⟨rfl, rfl⟩) | (go_at_call 15; refine Calls.mono (not_r (by first | assumption | exact T.self (by omega) (by omega)) _) ?_; rintro e w1 ⟨rfl, rfl⟩))
  all_goals (go_ret; exact retB rfl (by repeat (first | exact Below.refl _ _ | assumption | refine Below.drew ?_ | refine Below.alloc ?_ (by first | omega | (simp; done) | (simp; omega)) _ | refine Below.setCell ?_ (by first | omega | (simp; done) | (simp; omega)) _ | refine Below.trans ?_ (Below.mono (by assumption) (by first | omega | (simp; done) | (simp; omega))))))
theorem walk (a b c : Int) (w : World) : Calls Try.prog 4 #[.int .i64 a, .int .i64 b, .int .i64 c] w (RetB (.bool true) w) := by
  obtain ⟨x0, x2⟩ := tru_range a
  obtain ⟨y0, y2⟩ := tru_range b
  obtain ⟨z0, z2⟩ := tru_range c
  exact law a b c _ _ _ w rfl rfl rfl x0 x2 y0 y2 z0 z2 (by unfold tru; split <;> (try split) <;> omega)
end IntervalLogic
namespace IntervalLogic
set_option maxRecDepth 100000 in
theorem entry (H : Type) (enc : TypeId × Value → H) (W : World) (base : Nat) (args : Array Value) (ds : List (DataW H)) (p : List MemPlace)
    (hval : ∀ (j : Nat) t v, Try.f4.params[j]? = some t → args[j]? = some v → Value.okWide Try.prog W .any base t v)
    (hA : DataW.TrodAll enc Try.prog W 0 (fun _ => true) true Try.f4.params.toList args.toList ds p) :
    Calls Try.prog 4 args W (RetB (.bool true) W) := by
  rw [Try.params4] at hA hval
  obtain ⟨v0, vs0, d0, ds0, p0, q0, hargs, rfl, rfl, h0, r0⟩ := trodAll_cons hA
  obtain ⟨v1, vs1, d1, ds1, p1, q1, rfl, rfl, rfl, h1, r1⟩ := trodAll_cons r0
  obtain ⟨v2, vs2, d2, ds2, p2, q2, rfl, rfl, rfl, h2, r2⟩ := trodAll_cons r1
  obtain ⟨rfl, rfl, rfl⟩ := trodAll_nil r2
  obtain rfl : args = #[v0, v1, v2] := by cases args; simp_all
  obtain ⟨a, rfl, rfl, rfl, _⟩ := open_int Try.underlying26 (hval 0 26 v0 rfl rfl) h0
  obtain ⟨b, rfl, rfl, rfl, _⟩ := open_int Try.underlying26 (hval 1 26 v1 rfl rfl) h1
  obtain ⟨c, rfl, rfl, rfl, _⟩ := open_int Try.underlying26 (hval 2 26 v2 rfl rfl) h2
  exact walk a b c W
end IntervalLogic
/-! The step from the walk to the row of IntervalLogic. -/
namespace IntervalLogic
set_option maxRecDepth 100000 in
theorem lifted (os : Os) (started : os.Started) (H : Type) (enc : TypeId × Value → H) :
    ReturnsInHanded {} Try.checked os 4 .any (Rows.intervalLogicSpec.pre6 enc Try.prog Try.f4 Rows.intervalLogicRow.domain false) (Rows.intervalLogicSpec.post enc Try.prog Try.f4 false true false false) := by
  refine returnsInHanded_of_change (C := Try.checked) own started (by kernel_rfl) Try.func4
    (ChangeSpec.witness6 (enc := enc) (C := Try.checked) false ⟨#[], #[.int .i64 0, .int .i64 0, .int .i64 0], []⟩ 8 (by kernel_rfl) (by kernel_rfl) (by kernel_rfl) (by kernel_rfl)) ?_
  intro W base args ds gs before hval0 hW hcnd _
  have hval : ∀ (j : Nat) t v, Try.f4.params[j]? = some t → args[j]? = some v → Value.okWide Try.prog W .any base t v := hval0
  have hW' := hW
  obtain ⟨p, q, hA0, hV, rfl, hfz, hnd⟩ := hW
  have hA : DataW.TrodAll enc Try.prog W 0 (fun _ => true) true Try.f4.params.toList args.toList ds p := hA0
  obtain ⟨rfl, rfl⟩ := trodVars_none hV
  have hlen := trodAll_len _ _ _ _ hA
  obtain ⟨d0, d1, d2, rfl⟩ : ∃ d0 d1 d2, ds = [d0, d1, d2] := by
    rw [Try.params4] at hlen
    exact list3 hlen
  refine (entry H enc W base args [d0, d1, d2] p hval hA).mono fun e W' ⟨he, bel⟩ => ?_
  subst he
  exact ⟨_, rfl, _, _, _, [], _, [], hW', trodAll_mk1 (shut_bool Try.underlying4 _), readback laidOut _ _ _ _ (by rw [Try.params4]; exact of_decide_eq_true (by kernel_rfl)) hA bel, rfl, bel.frame _, fun h => by cases h⟩

theorem over : Rows.intervalLogicRow.holds Try.pinned (OpenSpec.ofChange Rows.intervalLogicSpec) :=
  OpenClaim.holds_of_wide 4 Try.f4 rfl rfl rfl rfl rfl rfl rfl ⟨rfl, rfl, rfl, rfl, rfl⟩ rfl rfl rfl rfl rfl (by kernel_rfl) Try.func4 (by kernel_rfl)
    (of_decide_eq_true (by kernel_rfl)) (by unfold Func.isWrapper; first | (rw [if_pos (by decide +kernel)]; kernel_rfl) | (rw [if_neg (by decide +kernel)]; exact ⟨rfl, rfl⟩))
    (fun os started H enc _ => lifted os started H enc)

/-- THE STATEMENT -/
theorem proved : Rows.IntervalLogicSaid := over
end IntervalLogic
#print axioms IntervalLogic.proved
end Go.Proofs.Ytegpdggadjjmkaa
