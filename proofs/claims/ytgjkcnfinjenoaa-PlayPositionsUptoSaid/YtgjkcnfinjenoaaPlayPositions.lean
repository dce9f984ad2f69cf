



/- For every game, plan, further positions and failures, for inputs that are not huge: a plan that does not get stuck loses as much with the further positions behind it, and one that gets stuck at a choice, or is refused, does so as before (few departures, vehicles and positions, else nothing is said). -/
import Derived.Test.YtgjkcnfinjenoaaPM4
import Derived.Test.YtgjkcnfinjenoaaLift
import Derived.OpenShut
import Derived.JoinedCond
namespace Go.Proofs.Ytgjkcnfinjenoaa
open Go.ChangeShapes Go.WideShapes Go.ChangeAt Go.RowKit Go.Joins Go.Deep
namespace PlayPositions
theorem bulk_one {H : Type} (d : DataW H) : 1 ≤ Rows.uptoBulk d := by
  cases d with
  | lit l => cases l <;> simp [Rows.uptoBulk]
  | nil => simp [Rows.uptoBulk]
  | ptr d => simp [Rows.uptoBulk]
  | slice elems spare => simp [Rows.uptoBulk]
  | agg parts => simp [Rows.uptoBulk]
  | iface t d => simp [Rows.uptoBulk]
  | map entries => simp [Rows.uptoBulk]
  | held h => simp [Rows.uptoBulk]
theorem bulk_len {H : Type} (l : List (DataW H)) : l.length ≤ Rows.uptoBulkAll l := by
  induction l with
  | nil => simp [Rows.uptoBulkAll]
  | cons x r ih => have := bulk_one x; simp only [Rows.uptoBulkAll, List.length_cons]; omega
theorem bulk_slice {H : Type} (elems spare : List (DataW H)) : elems.length ≤ Rows.uptoBulk (.slice elems spare) := by
  have h1 := bulk_len elems
  simp only [Rows.uptoBulk]
  omega
theorem poss_bulk {H : Type} {enc : TypeId × Value → H} {w : World} {held : Bool} {a : Option Addr} {n cap : Nat} {d : DataW H} {p : List MemPlace} (h : DataW.Trod enc Try.prog w 0 (fun _ => true) held 26 (.slice a n cap) d p) : n ≤ Rows.uptoBulk d := by
  obtain ⟨fuel, hf⟩ := h
  rcases open_slice Try.underlying26 hf with ⟨hcs, hx⟩ | ⟨a', len, cap', m, n', D, Pl, hcs, _, _, _, _, hx, _⟩
  · simp [Value.cells] at hcs
    obtain ⟨rfl, rfl, rfl⟩ := hcs
    exact Nat.zero_le _
  · simp [Value.cells] at hcs
    obtain ⟨rfl, rfl, rfl⟩ := hcs
    simp only [Prod.mk.injEq] at hx
    rw [hx.1]
    have := bulk_slice ((List.range n).map D) ((List.range (m - n)).map fun j => D (n + j))
    simpa using this
set_option maxRecDepth 100000 in
set_option maxHeartbeats 8000000 in
theorem all (g : Gm) (sa da : Option Addr) (sc dc : Nat) (l : List PA) (a : Option Addr) (c : Nat) (m : List PA) (ma : Option Addr) (mc : Nat) (F : List Int) (fa : Option Addr) (fc : Nat) (w : World) (hG : GmAt w g sa da) (hB : GmBig g) (hL : LaP w a l) (hI : InP l) (hM : LaP w ma m) (hJ : InP m)
    (hll : l.length ≤ 20000000) (hml : m.length ≤ 20000000) (hFi : Ints w fa F) (hFl : F.length < 9223372036854775808) :
    Calls Try.prog 5 #[gmV g sa sc da dc, .slice a l.length c, .slice ma m.length mc, .slice fa F.length fc] w (RetB (.bool true) w) := by
  obtain ⟨K, hK⟩ : ∃ K, K = l ++ m := ⟨_, rfl⟩
  have hKI : InP K := fun x hx => by
    rw [hK] at hx
    rcases List.mem_append.1 hx with h | h
    · exact hI x h
    · exact hJ x h
  have hKl : K.length = l.length + m.length := by rw [hK, List.length_append]
  have hfe := fun (wy : World) (ka : Option Addr) (kc : Nat) (hy : Below w.heap.size w wy) (hk : LaP wy ka K) => fewp_any g sa da sc dc K ka kc wy (hG.later hy) hk (by omega) hB.d
  have hlo := fun (h : FewP g K) (h20 : F.length ≤ 20) (wy : World) (hy : Below w.heap.size w wy) => lost_any g sa da sc dc l a c F fa fc wy (hG.later hy) h.few (hL.later hy) hI (by omega) (hFi.later hy) (by omega)
  have hlk := fun (h : FewP g K) (h20 : F.length ≤ 20) (ka : Option Addr) (kc : Nat) (wy : World) (hy : Below w.heap.size w wy) (hk : LaP wy ka K) => lost_any g sa da sc dc K ka kc F fa fc wy (hG.later hy) h.few hk hKI (by omega) (hFi.later hy) (by omega)
  have hmf := more_fact g (l.map (·.1)) (m.map (·.1)) F
  rw [← List.map_append, ← hK] at hmf
  simp only [lostV_eq] at hlo hlk
  have HFE := Lib.hid hfe
  have HLO := Lib.hid hlo
  have HLK := Lib.hid hlk
  have HMF := Lib.hid hmf
  have HKE := Lib.hid hK
  have HL := Lib.hid hL
  have HM := Lib.hid hM
  clear hG hB hL hI hM hJ hFi hfe hlo hlk hmf hK hKI hKl
  go_enter Try.func5, Try.ntmps5
  go_wp2_with fail
  refine calls_named ?_
  intro w0 hw0
  obtain ⟨hbx, _, hx, _⟩ := alloc1 w [.slice sa g.starts.length sc, .slice da g.deps.length dc, .int .i64 g.budget] 25 w0 hw0
  have HX := Lib.hid hx
  have HBX := Lib.hid hbx
  clear hw0 hx hbx
  refine Calls.mono (headp_any w0) ?_
  rintro e w1 ⟨rfl, hb1⟩
  have HB1 := Lib.hid (HBX.out.trans (hb1.mono HBX.out.size))
  have HX1 := Lib.hid (HX.out.later hb1)
  clear hb1
  have hnil := El.Own.lit (E := EQ) w1 w1.heap.size (Nat.le_refl _) [] (by simp) #[] rfl
  have hEm : Below w1.heap.size w1 (w1.alloc (.cells #[] 42)) := (Below.refl _ _).alloc (Nat.le_refl _) _
  obtain ⟨v2, w2, hr2, ho2, hg2, hn2⟩ := El.app (E := EQ) _ w1.heap.size _ [] l hnil a c ((HL.out.later HB1.out).at'.later hEm) (by simp; omega) (by simp) 26
  have hb2 : Below w1.heap.size w1 w2 := hEm.grown hg2 hEm.size (fun b hb => (hnil.lt b hb).1)
  have ho2' : EQ.Own w2 w1.heap.size v2 l := by simpa using ho2
  obtain ⟨v3, w3, hr3, ho3, hg3, hn3⟩ := El.app (E := EQ) w2 w1.heap.size v2 l m ho2' ma mc ((HM.out.later HB1.out).at'.later hb2) (by omega) hb2.size 26
  have hb3 : Below w1.heap.size w1 w3 := hb2.grown hg3 hb2.size (fun b hb => (ho2'.lt b hb).1)
  rw [← HKE.out] at ho3
  obtain ⟨ka, kc, rfl, _, _, hka, _⟩ := ho3.at
  have hbw3 := HB1.out.trans (hb3.mono HB1.out.size)
  have hk3 : LaP w3 ka K := ⟨hka, fun x hx => by
    rw [HKE.out] at hx
    rcases List.mem_append.1 hx with h | h
    · exact (HL.out.later hbw3).ps x h
    · exact (HM.out.later hbw3).ps x h⟩
  have HR2 := Lib.hid hr2
  have HR3 := Lib.hid hr3
  have HB3 := Lib.hid hbw3
  have HK3 := Lib.hid hk3
  have hx3 := HX1.out.later hb3
  have HX3 := Lib.hid hx3
  clear hnil hEm hr2 ho2 hg2 hn2 hb2 ho2' hr3 ho3 hg3 hn3 hb3 hka hbw3 hk3
  go_upto_region 3 with (at_builtin; first | go_loud (refine wpList_app_eq rfl _ _ _ rfl _ _ rfl rfl HR2.out ?_) | go_loud (refine wpList_app_eq rfl _ _ _ rfl _ _ rfl rfl HR3.out ?_))
  have c0 := (hx3 0 _ rfl).1
  have c1 := (hx3 1 _ rfl).1
  have c2 := (hx3 2 _ rfl).1
  clear hx3
  go_wp2_with fail
  refine Calls.mono (HFE.out w3 ka kc HB3.out HK3.out) ?_
  rintro e w4 ⟨hb4, hcase⟩
  have HK4 := Lib.hid (HK3.out.later hb4)
  (have HB4 := Lib.hid (HB3.out.trans (hb4.mono HB3.out.size)); have hx4 := HX3.out.later hb4; have HX4 := Lib.hid hx4; clear c0 c1 c2; have c0 := (hx4 0 _ rfl).1; have c1 := (hx4 1 _ rfl).1; have c2 := (hx4 2 _ rfl).1; clear hb4 hx4)
  rcases hcase with rfl | ⟨rfl, hfew⟩
  · go_wp2_with fail
    go_ret
    exact retB rfl HB4.out
  have HFP := Lib.hid hfew
  clear hfew
  rcases Nat.lt_or_ge 20 F.length with h20 | h20
  · have e20 : decide ((20 : Int) < (F.length : Int)) = true := decide_eq_true (by omega)
    go_wp2_with fail
    go_ret
    exact retB rfl HB4.out
  have e20 : decide ((20 : Int) < (F.length : Int)) = false := decide_eq_false (by omega)
  go_wp2_with fail
  refine Calls.mono (HLO.out HFP.out h20 w4 HB4.out) ?_
  rintro e w5 ⟨rfl, hb5⟩
  have HK5 := Lib.hid (HK4.out.later hb5)
  have hmf := HMF.out
  obtain ⟨X, hX⟩ : ∃ X, X = lostN g (l.map (·.1)) F := ⟨_, rfl⟩
  obtain ⟨Y, hY⟩ : ∃ Y, Y = lostN g (K.map (·.1)) F := ⟨_, rfl⟩
  rw [← hX, ← hY] at hmf
  have HMF2 := Lib.hid hmf
  rw [← hX]
  have HY := Lib.hid hY
  obtain ⟨x, f⟩ := X
  simp only
  clear hX hY hmf
  (have HB5 := Lib.hid (HB4.out.trans (hb5.mono HB4.out.size)); have hx5 := HX4.out.later hb5; have HX5 := Lib.hid hx5; clear c0 c1 c2; have c0 := (hx5 0 _ rfl).1; have c1 := (hx5 1 _ rfl).1; have c2 := (hx5 2 _ rfl).1; clear hb5 hx5)
  go_wp2_with fail
  refine Calls.mono (HLK.out HFP.out h20 ka kc w5 HB5.out HK5.out) ?_
  rintro e w6 ⟨rfl, hb6⟩
  rw [← HY.out]
  obtain ⟨y, f2⟩ := Y
  simp only
  (have HB6 := Lib.hid (HB5.out.trans (hb6.mono HB5.out.size)); have hx6 := HX5.out.later hb6; have HX6 := Lib.hid hx6; clear c0 c1 c2; have c0 := (hx6 0 _ rfl).1; have c1 := (hx6 1 _ rfl).1; have c2 := (hx6 2 _ rfl).1; clear hb6 hx6)
  by_cases h0 : f = 0
  · subst h0
    obtain ⟨h1, h2⟩ := HMF2.out.ok rfl
    have h1' : f2 = 0 := h1
    have h2' : x = y := h2
    subst h1' h2'
    clear h1 h2
    go_wp2_with fail
    go_ret
    exact retB rfl HB6.out
  · rcases HMF2.out.no h0 with h1 | h1
    · have h1' : f = 2 := h1
      subst h1'
      clear h1 h0
      go_wp2_with fail
      go_ret
      exact retB rfl HB6.out
    · have h1' : f2 = f := h1
      subst h1'
      clear h1
      have e0 : (f2 == (0 : Int)) = false := by simpa using h0
      by_cases h5 : f2 = 5
      · subst h5
        go_wp2_with fail
        go_ret
        exact retB rfl HB6.out
      · have e5 : (f2 == (5 : Int)) = false := by simpa using h5
        by_cases h6 : f2 = 1
        · subst h6
          go_wp2_with fail
          go_ret
          exact retB rfl HB6.out
        · have e6 : (f2 == (1 : Int)) = false := by simpa using h6
          go_wp2_with fail
          go_ret
          exact retB rfl HB6.out
set_option maxRecDepth 100000 in
theorem entry (H : Type) (enc : TypeId × Value → H) (W : World) (base : Nat) (args : Array Value) (ds : List (DataW H)) (p : List MemPlace)
    (hval : ∀ (j : Nat) t v, Try.f5.params[j]? = some t → args[j]? = some v → Value.okWide Try.prog W .any base t v)
    (hA : DataW.TrodAll enc Try.prog W 0 (fun _ => true) true Try.f5.params.toList args.toList ds p) (hk : Rows.uptoBulkAll ds ≤ 1048576) :
    Calls Try.prog 5 args W (RetB (.bool true) W) := by
  rw [Try.params5] at hA hval
  obtain ⟨v0, vs0, d0, ds0, p0, q0, hargs, rfl, rfl, h0, r0⟩ := trodAll_cons hA
  obtain ⟨v1, vs1, d1, ds1, p1, q1, rfl, rfl, rfl, h1, r1⟩ := trodAll_cons r0
  obtain ⟨v2, vs2, d2, ds2, p2, q2, rfl, rfl, rfl, h2, r2⟩ := trodAll_cons r1
  obtain ⟨v3, vs3, d3, ds3, p3, q3, rfl, rfl, rfl, h3, r3⟩ := trodAll_cons r2
  obtain ⟨rfl, rfl, rfl⟩ := trodAll_nil r3
  obtain rfl : args = #[v0, v1, v2, v3] := by cases args; simp_all
  simp only [Rows.uptoBulkAll] at hk
  obtain ⟨g, sa, sc, da, dc, rfl, hG, hB⟩ := open_game (hval 0 25 v0 rfl rfl) h0
  obtain ⟨l, a, c, rfl, hL, hI, _⟩ := open_plan (hval 1 26 v1 rfl rfl) h1
  obtain ⟨m, ma, mc, rfl, hM, hJ, _⟩ := open_plan (hval 2 26 v2 rfl rfl) h2
  obtain ⟨fa, fc, F, rfl, hFi, hFl, _⟩ := open_ints_at (hval 3 22 v3 rfl rfl) h3
  have b1 := poss_bulk h1
  have b2 := poss_bulk h2
  exact all g sa da sc dc l a c m ma mc F fa fc W hG hB hL hI hM hJ (by omega) (by omega) hFi hFl
end PlayPositions
/-! The step from the walk to the second form's row of PlayPositions. -/
namespace PlayPositions
set_option maxRecDepth 100000 in
theorem contract (H : Type) (enc : TypeId × Value → H) (W : World) (base : Nat) (args : Array Value) (ds gs : List (DataW H)) (before : List MemPlace)
    (hval0 : ∀ (j : Nat) t v, Try.f5.params[j]? = some t → args[j]? = some v → Value.okWide Try.prog W .any base t v)
    (hW : DataW.Whole enc Try.prog Try.f5.params.toList Rows.playPositionsSpec.vars false W args.toList ds gs before) (hk : Rows.uptoSmall H (ds ++ gs) = true) :
    Calls Try.prog 5 args W fun e W' => ∃ v, e = .returned v ∧ Rows.playPositionsSpec.post enc Try.prog Try.f5 false true false false W args v W' := by
  have hval : ∀ (j : Nat) t v, Try.f5.params[j]? = some t → args[j]? = some v → Value.okWide Try.prog W .any base t v := hval0
  have hW' := hW
  obtain ⟨p, q, hA0, hV, rfl, hfz, hnd⟩ := hW
  have hA : DataW.TrodAll enc Try.prog W 0 (fun _ => true) true Try.f5.params.toList args.toList ds p := hA0
  obtain ⟨rfl, rfl⟩ := trodVars_none hV
  have hk1 : Rows.uptoBulkAll ds ≤ 1048576 := by
    rw [List.append_nil] at hk
    exact of_decide_eq_true hk
  have hlen := trodAll_len _ _ _ _ hA
  obtain ⟨d0, d1, d2, d3, rfl⟩ : ∃ d0 d1 d2 d3, ds = [d0, d1, d2, d3] := by
    rw [Try.params5] at hlen
    exact list4 hlen
  refine (entry H enc W base args [d0, d1, d2, d3] p hval hA hk1).mono fun e W' ⟨he, bel⟩ => ?_
  subst he
  exact ⟨_, rfl, _, _, _, [], _, [], hW', trodAll_mk1 (shut_bool Try.underlying4 _), readback laidOut _ _ _ _ (by rw [Try.params5]; exact of_decide_eq_true (by kernel_rfl)) hA bel, rfl, bel.frame _, fun h => by cases h⟩
set_option maxRecDepth 100000 in
theorem lifted (os : Os) (started : os.Started) (H : Type) (enc : TypeId × Value → H) (F : Stop.Interp) :
    ReturnsInHanded {} Try.checked os 5 .any ((Rows.OpenSpec.upto Rows.playPositionsSpec).pre6 enc Try.prog Try.f5 Rows.playPositionsUptoRow.domain false) (((Rows.OpenSpec.upto Rows.playPositionsSpec).at F).post enc Try.prog Try.f5 false true false false) := by
  refine returnsInHanded_of_cond (C := Try.checked) (s := Rows.OpenSpec.upto Rows.playPositionsSpec) (k := Rows.uptoSmall) rfl own started (by kernel_rfl) Try.func5
    (OpenSpec.witness (enc := enc) (C := Try.checked) (s := Rows.OpenSpec.upto Rows.playPositionsSpec) (k := Rows.uptoSmall) rfl false ⟨#[], #[.agg #[.slice none 0 0, .slice none 0 0, .int .i64 0], .slice none 0 0, .slice none 0 0, .slice none 0 0], []⟩ 8 (by kernel_rfl) (by kernel_rfl) (by kernel_rfl)
      (x := ([.agg [.nil, .nil, .lit (.int .i64 0)], .nil, .nil, .nil], [], [])) (by kernel_rfl) rfl (by kernel_rfl)) ?_
  intro W base args ds gs before hval hW _ hk _
  exact contract H enc W base args ds gs before hval hW hk

theorem over : Rows.playPositionsUptoRow.holds Try.pinned (Rows.OpenSpec.upto Rows.playPositionsSpec) :=
  OpenClaim.holds_of_cond 5 Try.f5 rfl rfl rfl rfl rfl rfl rfl ⟨rfl, rfl, rfl, rfl, rfl⟩ rfl rfl rfl rfl rfl (by kernel_rfl) Try.func5 (by kernel_rfl)
    (of_decide_eq_true (by kernel_rfl)) (by unfold Func.isWrapper; first | (rw [if_pos (by decide +kernel)]; kernel_rfl) | (rw [if_neg (by decide +kernel)]; exact ⟨rfl, rfl⟩))
    (fun os started H enc _ F => lifted os started H enc F)

/-- THE STATEMENT -/
theorem proved : Rows.PlayPositionsUptoSaid := over
end PlayPositions
#print axioms PlayPositions.proved
end Go.Proofs.Ytgjkcnfinjenoaa
