


/- JudgeBounds: for every game, plan and two bounds, what is accepted with the lesser is accepted with the greater, and with no less than the first position's: the call of the law returns true, for every input. -/
import Derived.Test.YtghdfoolieagfaaJdgX
namespace Go.Proofs.Ytghdfoolieagfaa
open Go.ChangeShapes Go.WideShapes Go.ChangeAt Go.RowKit Go.Joins

namespace JudgeBounds
theorem walk (W : World) (g : Gm) (ga : Option Addr) (gc : Nat) (gd : Option Addr) (ge : Nat) (gG : GmAt W g ga gd) (_ : GmBig g) (pa : Option Addr) (pc : Nat) (p : List Pos) (pV : Nat → Value) (pP : PlanAt W pa p pV) (_ : p.length < 9223372036854775808) (pk : p.length ≤ pc) (_ : pc ≤ maxLen)
    (pI : ∀ q ∈ p, PosIn q ∧ inI q.choice ∧ q.starts.length < 9223372036854775808 ∧ q.failed.length < 9223372036854775808) (x : Int) (_ : inI x) (y : Int) (_ : inI y) :
    Calls Try.prog 5 #[gmV g ga gc gd ge, .slice pa p.length pc, .int .i64 x, .int .i64 y] W (RetB (.bool true) W) :=
  bounds_any g ga gd pa gc ge pc p pV x y W gG pP (fun q hq => (pI q hq).1) pk
end JudgeBounds
namespace JudgeBounds
set_option maxRecDepth 100000 in
theorem entry (H : Type) (enc : TypeId × Value → H) (W : World) (base : Nat) (args : Array Value) (ds : List (DataW H)) (p : List MemPlace)
    (hval : ∀ (j : Nat) t v, Try.f5.params[j]? = some t → args[j]? = some v → Value.okWide Try.prog W .any base t v)
    (hA : DataW.TrodAll enc Try.prog W 0 (fun _ => true) true Try.f5.params.toList args.toList ds p) :
    Calls Try.prog 5 args W (RetB (.bool true) W) := by
  rw [Try.params5] at hA hval
  obtain ⟨v0, vs0, d0, ds0, p0, q0, hargs, rfl, rfl, h0, r0⟩ := trodAll_cons hA
  obtain ⟨v1, vs1, d1, ds1, p1, q1, rfl, rfl, rfl, h1, r1⟩ := trodAll_cons r0
  obtain ⟨v2, vs2, d2, ds2, p2, q2, rfl, rfl, rfl, h2, r2⟩ := trodAll_cons r1
  obtain ⟨v3, vs3, d3, ds3, p3, q3, rfl, rfl, rfl, h3, r3⟩ := trodAll_cons r2
  obtain ⟨rfl, rfl, rfl⟩ := trodAll_nil r3
  obtain rfl : args = #[v0, v1, v2, v3] := by cases args; simp_all
  obtain ⟨g, ga, gc, gd, ge, rfl, gG, gB⟩ := open_game (hval 0 25 v0 rfl rfl) h0
  obtain ⟨pa, pc, p, pV, rfl, pP, pn, pk, pm, pI⟩ := open_poss (hval 1 26 v1 rfl rfl) h1
  obtain ⟨x, rfl, xo⟩ := open_i64 (hval 2 3 v2 rfl rfl) h2
  obtain ⟨y, rfl, yo⟩ := open_i64 (hval 3 3 v3 rfl rfl) h3
  exact walk W g ga gc gd ge gG gB pa pc p pV pP pn pk pm pI x xo y yo
end JudgeBounds
/-! The step from the walk to the row of JudgeBounds. -/
namespace JudgeBounds
set_option maxRecDepth 100000 in
theorem lifted (os : Os) (started : os.Started) (H : Type) (enc : TypeId × Value → H) :
    ReturnsInHanded {} Try.checked os 5 .any (Rows.judgeBoundsSpec.pre6 enc Try.prog Try.f5 Rows.judgeBoundsRow.domain false) (Rows.judgeBoundsSpec.post enc Try.prog Try.f5 false true false false) := by
  refine returnsInHanded_of_change (C := Try.checked) own started (by kernel_rfl) Try.func5
    (ChangeSpec.witness6 (enc := enc) (C := Try.checked) false ⟨#[], #[.agg #[.slice none 0 0, .slice none 0 0, .int .i64 0], .slice none 0 0, .int .i64 0, .int .i64 0], []⟩ 8 (by kernel_rfl) (by kernel_rfl) (by kernel_rfl) (by kernel_rfl)) ?_
  intro W base args ds gs before hval0 hW hcnd _
  have hval : ∀ (j : Nat) t v, Try.f5.params[j]? = some t → args[j]? = some v → Value.okWide Try.prog W .any base t v := hval0
  have hW' := hW
  obtain ⟨p, q, hA0, hV, rfl, hfz, hnd⟩ := hW
  have hA : DataW.TrodAll enc Try.prog W 0 (fun _ => true) true Try.f5.params.toList args.toList ds p := hA0
  obtain ⟨rfl, rfl⟩ := trodVars_none hV
  have hlen := trodAll_len _ _ _ _ hA
  obtain ⟨d0, d1, d2, d3, rfl⟩ : ∃ d0 d1 d2 d3, ds = [d0, d1, d2, d3] := by
    rw [Try.params5] at hlen
    exact list4 hlen
  refine (entry H enc W base args [d0, d1, d2, d3] p hval hA).mono fun e W' ⟨he, bel⟩ => ?_
  subst he
  exact ⟨_, rfl, _, _, _, [], _, [], hW', trodAll_mk1 (shut_bool Try.underlying4 _), readback laidOut _ _ _ _ (by rw [Try.params5]; exact of_decide_eq_true (by kernel_rfl)) hA bel, rfl, bel.frame _, fun h => by cases h⟩

theorem over : Rows.judgeBoundsRow.holds Try.pinned (OpenSpec.ofChange Rows.judgeBoundsSpec) :=
  OpenClaim.holds_of_wide 5 Try.f5 rfl rfl rfl rfl rfl rfl rfl ⟨rfl, rfl, rfl, rfl, rfl⟩ rfl rfl rfl rfl rfl (by kernel_rfl) Try.func5 (by kernel_rfl)
    (of_decide_eq_true (by kernel_rfl)) (by unfold Func.isWrapper; first | (rw [if_pos (by decide +kernel)]; kernel_rfl) | (rw [if_neg (by decide +kernel)]; exact ⟨rfl, rfl⟩))
    (fun os started H enc _ => lifted os started H enc)

/-- THE STATEMENT -/
theorem proved : Rows.JudgeBoundsSaid := over
end JudgeBounds
#print axioms JudgeBounds.proved
end Go.Proofs.Ytghdfoolieagfaa
