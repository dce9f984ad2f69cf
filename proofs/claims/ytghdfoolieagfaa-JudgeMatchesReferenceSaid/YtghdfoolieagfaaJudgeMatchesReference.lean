


/- JudgeMatchesReference: for every game, plan and bound, Accept agrees with the reference implementation: the call of the law returns true, for every input. -/
import Derived.Test.YtghdfoolieagfaaJdgAc
namespace Go.Proofs.Ytghdfoolieagfaa
open Go.ChangeShapes Go.WideShapes Go.ChangeAt Go.RowKit Go.Joins

namespace JudgeMatchesReference
set_option maxRecDepth 100000 in
set_option maxHeartbeats 4000000 in
theorem all (g : Gm) (sa da pa : Option Addr) (sc dc pc : Nat) (plan : List Pos) (pv : Nat → Value) (bound : Int) (w : World) (hG : GmAt w g sa da) (hP : PlanAt w pa plan pv) (hpi : ∀ p ∈ plan, PosIn p) :
    Calls Try.prog 3 #[gmV g sa sc da dc, .slice pa plan.length pc, .int .i64 bound] w (RetB (.bool true) w) := by
  have HG := Lib.hid hG
  have HP := Lib.hid hP
  have HPI := Lib.hid hpi
  obtain ⟨np, hnp⟩ : ∃ n, n = plan.length := ⟨_, rfl⟩
  obtain ⟨ns, hns⟩ : ∃ n, n = g.starts.length := ⟨_, rfl⟩
  obtain ⟨nd, hnd⟩ : ∃ n, n = g.deps.length := ⟨_, rfl⟩
  obtain ⟨gb, hgb⟩ : ∃ n, n = g.budget := ⟨_, rfl⟩
  have HFEW := Lib.hid (show ∀ wy, Below w.heap.size w wy → Calls Try.prog 9 #[.agg #[.slice sa ns sc, .slice da nd dc, .int .i64 gb], .slice pa np pc] wy (RetB (.bool (fewB g plan 300)) wy) from fun wy hy => by
    have h := few_any g sa da pa sc dc pc plan pv wy (hG.later hy) (hP.later hy)
    unfold gmV at h
    rw [← hnp, ← hns, ← hnd, ← hgb] at h
    exact h)
  obtain ⟨ac, hac⟩ : ∃ ac, ac = accB g plan bound := ⟨_, rfl⟩
  have HA1 := Lib.hid (show FewOk g plan 300 → ∀ wy, Below w.heap.size w wy → Calls Try.prog 10 #[.agg #[.slice sa ns sc, .slice da nd dc, .int .i64 gb], .slice pa np pc, .int .i64 bound] wy (RetB (.bool ac) wy) from fun hf wy hy => by
    have h := accept_any g sa da pa sc dc pc plan pv bound wy (hG.later hy) hf.gm (hP.later hy) hpi (by have := hf.2.2.1; omega)
    unfold gmV at h
    rw [← hnp, ← hns, ← hnd, ← hgb, ← hac] at h
    exact h)
  have HA2 := Lib.hid (show FewOk g plan 300 → ∀ wy, Below w.heap.size w wy → Calls Try.prog 11 #[.agg #[.slice sa ns sc, .slice da nd dc, .int .i64 gb], .slice pa np pc, .int .i64 bound] wy (RetB (.bool ac) wy) from fun hf wy hy => by
    have h := raccept_any g sa da pa sc dc pc plan pv bound wy (hG.later hy) hf.gm (hP.later hy) (hf.plan (by omega)) hpi
    unfold gmV at h
    rw [← hnp, ← hns, ← hnd, ← hgb, ← hac] at h
    exact h)
  unfold gmV
  rw [← hnp, ← hns, ← hnd, ← hgb]
  clear hG hP hpi hnp hns hnd hgb hac
  go_enter Try.func3, Try.ntmps3
  go_wp2_with fail
  obtain ⟨wx, X, hX, hbx, hBX, hwx⟩ : ∃ wx X, X = w.heap.size ∧ Below w.heap.size w wx ∧ BoxAt wx X [.slice sa ns sc, .slice da nd dc, .int .i64 gb] ∧ wx = w.alloc (.cells #[.slice sa ns sc, .slice da nd dc, .int .i64 gb] 25) := ⟨_, _, rfl, (Below.refl _ _).alloc (Nat.le_refl _) _, BoxAt.new w _ _, rfl⟩
  rw [← hwx, ← hX]
  clear hwx hX
  refine Calls.mono (head_any _) ?_
  rintro e w1 ⟨rfl, hb1⟩
  have HB1 := Lib.hid (hbx.trans (hb1.mono hbx.size))
  have hBX1 := hBX.later hb1
  have HBX1 := Lib.hid hBX1
  have b0 := (hBX1 0 _ rfl).1
  have b1 := (hBX1 1 _ rfl).1
  have b2 := (hBX1 2 _ rfl).1
  clear hb1 hbx hBX hBX1
  go_wp2_with fail
  refine Calls.mono (HFEW.out w1 HB1.out) ?_
  rintro e w2 ⟨rfl, hb2⟩
  have HB2 := Lib.hid (HB1.out.trans (hb2.mono HB1.out.size))
  have c0 := cell_later hb2 b0
  have c1 := cell_later hb2 b1
  have c2 := cell_later hb2 b2
  clear hb2 b0 b1 b2
  by_cases hf : FewOk g plan 300
  case neg =>
    rw [fewB_no hf]
    clear hf
    go_wp2_with fail
    all_goals (go_ret; exact retB rfl HB2.out)
  rw [fewB_yes hf]
  have HC1 := Lib.hid (HA1.out hf)
  have HC2 := Lib.hid (HA2.out hf)
  have hS : ∀ wy : World, Below w2.heap.size w2 wy → wy.cell? ⟨X, 0, none⟩ = some (.slice sa ns sc) ∧ wy.cell? ⟨X, 1, none⟩ = some (.slice da nd dc) ∧ wy.cell? ⟨X, 2, none⟩ = some (.int .i64 gb) ∧ Below w.heap.size w wy := fun wy hy => ⟨cell_later hy c0, cell_later hy c1, cell_later hy c2, HB2.out.trans (hy.mono HB2.out.size)⟩
  clear hf
  cases ac <;> (
    go_wp2_with fail
    refine wp_flow_s [] [] (by kernel_rfl) (by kernel_rfl) (by kernel_rfl) ?_
    repeat (first | ((with_reducible refine Flow.pure hS StayG.nil (v := ?_) ?_ ?_ ?_ ?_); rotate_left 1; (focus kernel_rfl); (focus (intro _; rfl)); (focus (intro β wx hSw; (try dsimp only at hSw); go_simp; (try with_reducible rfl); done)); (try simp only [Act.put, List.setIfInBounds_toArray, List.set_cons_zero, List.set_cons_succ, Nat.reduceAdd])) | ((with_reducible refine Flow.skip StayG.nil ?_ ?_ ?_); (focus kernel_rfl); (focus (intro _; rfl)); (try simp only [Act.put, List.setIfInBounds_toArray, List.set_cons_zero, List.set_cons_succ, Nat.reduceAdd])))
    ((with_reducible refine Flow.call hS StayG.nil (v := ?_) ?_ ?_ ?_ ?_); rotate_left 1; (focus kernel_rfl); (focus (intro _; rfl)); (focus (intro β L wx hI hat hSw K' hK; (try dsimp only at hSw); go_simp; go_at_call 10; refine Calls.mono (HC1.out _ hSw.2.2.2) ?_; rintro e w' ⟨rfl, hb'⟩; exact hK.out _ hb')); (try simp only [Act.put, List.setIfInBounds_toArray, List.set_cons_zero, List.set_cons_succ, Nat.reduceAdd]))
    repeat (first | ((with_reducible refine Flow.pure hS StayG.nil (v := ?_) ?_ ?_ ?_ ?_); rotate_left 1; (focus kernel_rfl); (focus (intro _; rfl)); (focus (intro β wx hSw; (try dsimp only at hSw); go_simp; (try with_reducible rfl); done)); (try simp only [Act.put, List.setIfInBounds_toArray, List.set_cons_zero, List.set_cons_succ, Nat.reduceAdd])) | ((with_reducible refine Flow.skip StayG.nil ?_ ?_ ?_); (focus kernel_rfl); (focus (intro _; rfl)); (try simp only [Act.put, List.setIfInBounds_toArray, List.set_cons_zero, List.set_cons_succ, Nat.reduceAdd])))
    ((with_reducible refine Flow.call hS StayG.nil (v := ?_) ?_ ?_ ?_ ?_); rotate_left 1; (focus kernel_rfl); (focus (intro _; rfl)); (focus (intro β L wx hI hat hSw K' hK; (try dsimp only at hSw); go_simp; go_at_call 11; refine Calls.mono (HC2.out _ hSw.2.2.2) ?_; rintro e w' ⟨rfl, hb'⟩; exact hK.out _ hb')); (try simp only [Act.put, List.setIfInBounds_toArray, List.set_cons_zero, List.set_cons_succ, Nat.reduceAdd]))
    repeat (first | ((with_reducible refine Flow.pure hS StayG.nil (v := ?_) ?_ ?_ ?_ ?_); rotate_left 1; (focus kernel_rfl); (focus (intro _; rfl)); (focus (intro β wx hSw; (try dsimp only at hSw); go_simp; (try with_reducible rfl); done)); (try simp only [Act.put, List.setIfInBounds_toArray, List.set_cons_zero, List.set_cons_succ, Nat.reduceAdd])) | ((with_reducible refine Flow.skip StayG.nil ?_ ?_ ?_); (focus kernel_rfl); (focus (intro _; rfl)); (try simp only [Act.put, List.setIfInBounds_toArray, List.set_cons_zero, List.set_cons_succ, Nat.reduceAdd])))
    ((with_reducible refine Flow.stop ?_); dsimp only; intro β9 w10 hI9)
    have HBW := Lib.hid (HB2.out.trans (hI9.below.mono HB2.out.size))
    clear hS hI9 c0 c1 c2
    go_wp2_with fail
    go_ret
    exact retB rfl HBW.out)
theorem walk (W : World) (g : Gm) (ga : Option Addr) (gc : Nat) (gd : Option Addr) (ge : Nat) (gG : GmAt W g ga gd) (_ : GmBig g) (pa : Option Addr) (pc : Nat) (p : List Pos) (pV : Nat → Value) (pP : PlanAt W pa p pV) (_ : p.length < 9223372036854775808) (_ : p.length ≤ pc) (_ : pc ≤ maxLen)
    (pI : ∀ q ∈ p, PosIn q ∧ inI q.choice ∧ q.starts.length < 9223372036854775808 ∧ q.failed.length < 9223372036854775808) (x : Int) (_ : inI x) :
    Calls Try.prog 3 #[gmV g ga gc gd ge, .slice pa p.length pc, .int .i64 x] W (RetB (.bool true) W) :=
  all g ga gd pa gc ge pc p pV x W gG pP (fun q hq => (pI q hq).1)
end JudgeMatchesReference
namespace JudgeMatchesReference
set_option maxRecDepth 100000 in
theorem entry (H : Type) (enc : TypeId × Value → H) (W : World) (base : Nat) (args : Array Value) (ds : List (DataW H)) (p : List MemPlace)
    (hval : ∀ (j : Nat) t v, Try.f3.params[j]? = some t → args[j]? = some v → Value.okWide Try.prog W .any base t v)
    (hA : DataW.TrodAll enc Try.prog W 0 (fun _ => true) true Try.f3.params.toList args.toList ds p) :
    Calls Try.prog 3 args W (RetB (.bool true) W) := by
  rw [Try.params3] at hA hval
  obtain ⟨v0, vs0, d0, ds0, p0, q0, hargs, rfl, rfl, h0, r0⟩ := trodAll_cons hA
  obtain ⟨v1, vs1, d1, ds1, p1, q1, rfl, rfl, rfl, h1, r1⟩ := trodAll_cons r0
  obtain ⟨v2, vs2, d2, ds2, p2, q2, rfl, rfl, rfl, h2, r2⟩ := trodAll_cons r1
  obtain ⟨rfl, rfl, rfl⟩ := trodAll_nil r2
  obtain rfl : args = #[v0, v1, v2] := by cases args; simp_all
  obtain ⟨g, ga, gc, gd, ge, rfl, gG, gB⟩ := open_game (hval 0 25 v0 rfl rfl) h0
  obtain ⟨pa, pc, p, pV, rfl, pP, pn, pk, pm, pI⟩ := open_poss (hval 1 26 v1 rfl rfl) h1
  obtain ⟨x, rfl, xo⟩ := open_i64 (hval 2 3 v2 rfl rfl) h2
  exact walk W g ga gc gd ge gG gB pa pc p pV pP pn pk pm pI x xo
end JudgeMatchesReference
/-! The step from the walk to the row of JudgeMatchesReference. -/
namespace JudgeMatchesReference
set_option maxRecDepth 100000 in
theorem lifted (os : Os) (started : os.Started) (H : Type) (enc : TypeId × Value → H) :
    ReturnsInHanded {} Try.checked os 3 .any (Rows.judgeMatchesReferenceSpec.pre6 enc Try.prog Try.f3 Rows.judgeMatchesReferenceRow.domain false) (Rows.judgeMatchesReferenceSpec.post enc Try.prog Try.f3 false true false false) := by
  refine returnsInHanded_of_change (C := Try.checked) own started (by kernel_rfl) Try.func3
    (ChangeSpec.witness6 (enc := enc) (C := Try.checked) false ⟨#[], #[.agg #[.slice none 0 0, .slice none 0 0, .int .i64 0], .slice none 0 0, .int .i64 0], []⟩ 8 (by kernel_rfl) (by kernel_rfl) (by kernel_rfl) (by kernel_rfl)) ?_
  intro W base args ds gs before hval0 hW hcnd _
  have hval : ∀ (j : Nat) t v, Try.f3.params[j]? = some t → args[j]? = some v → Value.okWide Try.prog W .any base t v := hval0
  have hW' := hW
  obtain ⟨p, q, hA0, hV, rfl, hfz, hnd⟩ := hW
  have hA : DataW.TrodAll enc Try.prog W 0 (fun _ => true) true Try.f3.params.toList args.toList ds p := hA0
  obtain ⟨rfl, rfl⟩ := trodVars_none hV
  have hlen := trodAll_len _ _ _ _ hA
  obtain ⟨d0, d1, d2, rfl⟩ : ∃ d0 d1 d2, ds = [d0, d1, d2] := by
    rw [Try.params3] at hlen
    exact list3 hlen
  refine (entry H enc W base args [d0, d1, d2] p hval hA).mono fun e W' ⟨he, bel⟩ => ?_
  subst he
  exact ⟨_, rfl, _, _, _, [], _, [], hW', trodAll_mk1 (shut_bool Try.underlying4 _), readback laidOut _ _ _ _ (by rw [Try.params3]; exact of_decide_eq_true (by kernel_rfl)) hA bel, rfl, bel.frame _, fun h => by cases h⟩

theorem over : Rows.judgeMatchesReferenceRow.holds Try.pinned (OpenSpec.ofChange Rows.judgeMatchesReferenceSpec) :=
  OpenClaim.holds_of_wide 3 Try.f3 rfl rfl rfl rfl rfl rfl rfl ⟨rfl, rfl, rfl, rfl, rfl⟩ rfl rfl rfl rfl rfl (by kernel_rfl) Try.func3 (by kernel_rfl)
    (of_decide_eq_true (by kernel_rfl)) (by unfold Func.isWrapper; first | (rw [if_pos (by decide +kernel)]; kernel_rfl) | (rw [if_neg (by decide +kernel)]; exact ⟨rfl, rfl⟩))
    (fun os started H enc _ => lifted os started H enc)

/-- THE STATEMENT -/
theorem proved : Rows.JudgeMatchesReferenceSaid := over
end JudgeMatchesReference
#print axioms JudgeMatchesReference.proved
end Go.Proofs.Ytghdfoolieagfaa
