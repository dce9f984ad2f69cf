


/- JudgeSound: for every game and plan that is accepted with a bound, and every way in which vehicles fail, whoever follows the plan always has a position whose choice is possible, and loses no more than the bound: the call of the law returns true, for every input. -/
import Derived.Test.YtghdfoolieagfaaJdgSo
namespace Go.Proofs.Ytghdfoolieagfaa
open Go.ChangeShapes Go.WideShapes Go.ChangeAt Go.RowKit Go.Joins

section
variable {H : Type} {enc : TypeId × Value → H} {w : World} {held : Bool}
theorem open_bytes {b0 : Nat} {r : Reach} {v : Value} {d : DataW H} {p : List MemPlace} (hv : Value.okWide Try.prog w r b0 30 v) (h : DataW.Trod enc Try.prog w 0 (fun _ => true) held 30 v d p) :
    ∃ (a : Option Addr) (cap : Nat) (l : List Int), v = .slice a l.length cap ∧ U8s w a l ∧ l.length < 9223372036854775808 ∧ ∀ j, j < l.length → 0 ≤ ig l j ∧ ig l j < 256 := by
  obtain ⟨a, len, cap, rfl⟩ := okWide_slice Try.underlying30 hv
  obtain ⟨fuel, hf⟩ := h
  rcases open_ints Try.underlying30 Try.underlying5 (by kernel_rfl) hf with ⟨hcs, _⟩ | ⟨a', len', cap', zs, hcs, _, hl, hm, hz, _, hc, hw⟩
  · simp [Value.cells] at hcs
    obtain ⟨rfl, rfl, rfl⟩ := hcs
    exact ⟨none, 0, [], rfl, fun j hj => absurd hj (by simp), by simp, fun j hj => absurd hj (by simp)⟩
  · simp [Value.cells] at hcs
    obtain ⟨rfl, rfl, rfl⟩ := hcs
    simp at hz
    unfold maxLen at hm
    have hg : ∀ j, j < len → ig (zs.take len) j = zs.getD j 0 := fun j hj => by simp [ig, List.getD, hj]
    refine ⟨some a', cap, zs.take len, by simp; omega, fun j hj => ?_, by simp; omega, fun j hj => ?_⟩
    · simp only [List.length_take] at hj
      obtain ⟨b, off, rfl, hc'⟩ := cells_at (n := zs.length) (by omega) hc
      refine ⟨b, off, rfl, ?_⟩
      rw [hc' j (by omega), hg j (by omega)]
    · simp only [List.length_take] at hj
      rw [hg j (by omega)]
      have hjz : j < zs.length := by omega
      have := hw (zs.getD j 0) (by simp only [List.getD, List.getElem?_eq_getElem hjz, Option.getD_some]; exact List.getElem_mem hjz)
      have h1 := Bool.and_eq_true_iff.1 this
      have h2 : (0 : Int) ≤ zs.getD j 0 := of_decide_eq_true h1.1
      have h3 : zs.getD j 0 ≤ 255 := of_decide_eq_true h1.2
      omega
end
namespace JudgeSound
theorem walk (W : World) (g : Gm) (ga : Option Addr) (gc : Nat) (gd : Option Addr) (ge : Nat) (gG : GmAt W g ga gd) (_ : GmBig g) (pa : Option Addr) (pc : Nat) (p : List Pos) (pV : Nat → Value) (pP : PlanAt W pa p pV) (_ : p.length < 9223372036854775808) (_ : p.length ≤ pc) (_ : pc ≤ maxLen)
    (pI : ∀ q ∈ p, PosIn q ∧ inI q.choice ∧ q.starts.length < 9223372036854775808 ∧ q.failed.length < 9223372036854775808) (x : Int) (_ : inI x) (ra : Option Addr) (rc : Nat) (r : List Int) (rB : U8s W ra r) (rl : r.length < 9223372036854775808) (rr : ∀ j, j < r.length → 0 ≤ ig r j ∧ ig r j < 256) :
    Calls Try.prog 4 #[gmV g ga gc gd ge, .slice pa p.length pc, .int .i64 x, .slice ra r.length rc] W (RetB (.bool true) W) :=
  sound_any g ga gd pa gc ge pc p pV x ra rc r W gG pP (fun q hq => (pI q hq).1) rB rl rr
end JudgeSound
namespace JudgeSound
set_option maxRecDepth 100000 in
theorem entry (H : Type) (enc : TypeId × Value → H) (W : World) (base : Nat) (args : Array Value) (ds : List (DataW H)) (p : List MemPlace)
    (hval : ∀ (j : Nat) t v, Try.f4.params[j]? = some t → args[j]? = some v → Value.okWide Try.prog W .any base t v)
    (hA : DataW.TrodAll enc Try.prog W 0 (fun _ => true) true Try.f4.params.toList args.toList ds p) :
    Calls Try.prog 4 args W (RetB (.bool true) W) := by
  rw [Try.params4] at hA hval
  obtain ⟨v0, vs0, d0, ds0, p0, q0, hargs, rfl, rfl, h0, r0⟩ := trodAll_cons hA
  obtain ⟨v1, vs1, d1, ds1, p1, q1, rfl, rfl, rfl, h1, r1⟩ := trodAll_cons r0
  obtain ⟨v2, vs2, d2, ds2, p2, q2, rfl, rfl, rfl, h2, r2⟩ := trodAll_cons r1
  obtain ⟨v3, vs3, d3, ds3, p3, q3, rfl, rfl, rfl, h3, r3⟩ := trodAll_cons r2
  obtain ⟨rfl, rfl, rfl⟩ := trodAll_nil r3
  obtain rfl : args = #[v0, v1, v2, v3] := by cases args; simp_all
  obtain ⟨g, ga, gc, gd, ge, rfl, gG, gB⟩ := open_game (hval 0 25 v0 rfl rfl) h0
  obtain ⟨pa, pc, p, pV, rfl, pP, pn, pk, pm, pI⟩ := open_poss (hval 1 26 v1 rfl rfl) h1
  obtain ⟨x, rfl, xo⟩ := open_i64 (hval 2 3 v2 rfl rfl) h2
  obtain ⟨ra, rc, r, rfl, rB, rl, rr⟩ := open_bytes (hval 3 30 v3 rfl rfl) h3
  exact walk W g ga gc gd ge gG gB pa pc p pV pP pn pk pm pI x xo ra rc r rB rl rr
end JudgeSound
/-! The step from the walk to the row of JudgeSound. -/
namespace JudgeSound
set_option maxRecDepth 100000 in
theorem lifted (os : Os) (started : os.Started) (H : Type) (enc : TypeId × Value → H) :
    ReturnsInHanded {} Try.checked os 4 .any (Rows.judgeSoundSpec.pre6 enc Try.prog Try.f4 Rows.judgeSoundRow.domain false) (Rows.judgeSoundSpec.post enc Try.prog Try.f4 false true false false) := by
  refine returnsInHanded_of_change (C := Try.checked) own started (by kernel_rfl) Try.func4
    (ChangeSpec.witness6 (enc := enc) (C := Try.checked) false ⟨#[], #[.agg #[.slice none 0 0, .slice none 0 0, .int .i64 0], .slice none 0 0, .int .i64 0, .slice none 0 0], []⟩ 8 (by kernel_rfl) (by kernel_rfl) (by kernel_rfl) (by kernel_rfl)) ?_
  intro W base args ds gs before hval0 hW hcnd _
  have hval : ∀ (j : Nat) t v, Try.f4.params[j]? = some t → args[j]? = some v → Value.okWide Try.prog W .any base t v := hval0
  have hW' := hW
  obtain ⟨p, q, hA0, hV, rfl, hfz, hnd⟩ := hW
  have hA : DataW.TrodAll enc Try.prog W 0 (fun _ => true) true Try.f4.params.toList args.toList ds p := hA0
  obtain ⟨rfl, rfl⟩ := trodVars_none hV
  have hlen := trodAll_len _ _ _ _ hA
  obtain ⟨d0, d1, d2, d3, rfl⟩ : ∃ d0 d1 d2 d3, ds = [d0, d1, d2, d3] := by
    rw [Try.params4] at hlen
    exact list4 hlen
  refine (entry H enc W base args [d0, d1, d2, d3] p hval hA).mono fun e W' ⟨he, bel⟩ => ?_
  subst he
  exact ⟨_, rfl, _, _, _, [], _, [], hW', trodAll_mk1 (shut_bool Try.underlying4 _), readback laidOut _ _ _ _ (by rw [Try.params4]; exact of_decide_eq_true (by kernel_rfl)) hA bel, rfl, bel.frame _, fun h => by cases h⟩

theorem over : Rows.judgeSoundRow.holds Try.pinned (OpenSpec.ofChange Rows.judgeSoundSpec) :=
  OpenClaim.holds_of_wide 4 Try.f4 rfl rfl rfl rfl rfl rfl rfl ⟨rfl, rfl, rfl, rfl, rfl⟩ rfl rfl rfl rfl rfl (by kernel_rfl) Try.func4 (by kernel_rfl)
    (of_decide_eq_true (by kernel_rfl)) (by unfold Func.isWrapper; first | (rw [if_pos (by decide +kernel)]; kernel_rfl) | (rw [if_neg (by decide +kernel)]; exact ⟨rfl, rfl⟩))
    (fun os started H enc _ => lifted os started H enc)

/-- THE STATEMENT -/
theorem proved : Rows.JudgeSoundSaid := over
end JudgeSound
#print axioms JudgeSound.proved
end Go.Proofs.Ytghdfoolieagfaa
