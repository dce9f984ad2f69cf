




/- For every game, Valid, Value and Plan agree with the reference implementation (at most 4 departures, 3 vehicles and a budget of 2, or a game that is not valid or not small). -/
import Derived.Test.YtlkknoooeldomaaGamPq
import Derived.Test.YtlkknoooeldomaaLift
namespace Go.Proofs.Ytlkknoooeldomaa
open Go.ChangeShapes Go.WideShapes Go.ChangeAt Go.RowKit Go.Joins
namespace GameMatchesReference

theorem plans_eq {g : Gm} (l k : List PA) (h : PlanR g l) (hp : PlanOf g (l.map (·.1))) (ho : Ord g (followL g g.deps.length (beginS g) []) k) : l.map (·.1) = k.map (·.1) :=
  (hp.p.trans ho.p.symm).eq_of_pairwise (le := fun x y => cmpP x y < 0) (fun a b _ _ h1 h2 => by have := cmpP_tw.anti a b; omega) h.strict ho.s
theorem same_nil (w : World) : Calls Try.prog 17 #[.slice none 0 0, .slice none 0 0] w (RetB (.bool true) w) := by
  have h : LiI 0 0 w none [] := ⟨El.At.nil, fun _ h => (by cases h), fun _ h => (by cases h)⟩
  exact same_any 0 [] [] none none 0 0 w h h rfl (by omega) (by simp)
set_option maxRecDepth 100000 in
set_option maxHeartbeats 8000000 in
theorem all (g : Gm) (sa da : Option Addr) (sc dc : Nat) (w : World) (hG : GmAt w g sa da) (hF : GmBig g) : Calls Try.prog 3 #[gmV g sa sc da dc] w (RetB (.bool true) w) := by
  have HG := Lib.hid hG
  have HF := Lib.hid hF
  have hfw := fun wy (hy : Below w.heap.size w wy) => rfew_any g sa da sc dc wy (hG.later hy) hF
  have hvr := fun wy (hy : Below w.heap.size w wy) => rvalidG_any g sa da sc dc wy (hG.later hy) hF
  have hv2 := fun wy (hy : Below w.heap.size w wy) => rvalue_any g sa da sc dc wy (hG.later hy) hF
  have hp2 := fun (h4 : VG g → SmG g → g.deps.length ≤ 4) wy (hy : Below w.heap.size w wy) => rplan_any g sa da sc dc wy (hG.later hy) hF h4
  have hvg := fun (hf : GmFew g) wy (hy : Below w.heap.size w wy) => valid_anyG g sa da sc dc wy (hG.later hy) hf
  have hv1 := fun (hf : GmFew g) wy (hy : Below w.heap.size w wy) => value_any g sa da sc dc wy (hG.later hy) hf
  have hp1 := fun (hf : GmFew g) wy (hy : Below w.heap.size w wy) => plan_any g sa da sc dc wy (hG.later hy) hf
  obtain ⟨n, hn⟩ : ∃ n, n = g.starts.length := ⟨_, rfl⟩
  obtain ⟨nd, hnd⟩ : ∃ n, n = g.deps.length := ⟨_, rfl⟩
  obtain ⟨bu, hbu⟩ : ∃ n, n = g.budget := ⟨_, rfl⟩
  simp only [gmV, ← hn, ← hnd, ← hbu] at hfw hvr hv2 hp2 hvg hv1 hp1 ⊢
  have HN := Lib.hid (And.intro hn (And.intro hnd hbu))
  have HFW := Lib.hid hfw
  have HVR0 := Lib.hid hvr
  have HV20 := Lib.hid hv2
  have HP20 := Lib.hid hp2
  have HVG0 := Lib.hid hvg
  have HV10 := Lib.hid hv1
  have HP10 := Lib.hid hp1
  clear hG hF hfw hvr hv2 hp2 hvg hv1 hp1 hn hnd hbu
  go_enter Try.func3, Try.ntmps3
  go_wp2_with fail
  refine calls_named ?_
  intro w0 hw0
  obtain ⟨hbx, _, hx, _⟩ := alloc1 w [.slice sa n sc, .slice da nd dc, .int .i64 bu] 25 w0 hw0
  have HX := Lib.hid hx
  have HBX := Lib.hid hbx
  clear hw0 hx hbx
  refine Calls.mono (head_any w0) ?_
  rintro e w1 ⟨rfl, hb1⟩
  have HB1 := Lib.hid (HBX.out.trans (hb1.mono HBX.out.size))
  have HX1 := Lib.hid (HX.out.later hb1)
  have c0 := (HX1.out 0 _ rfl).1
  have c1 := (HX1.out 1 _ rfl).1
  have c2 := (HX1.out 2 _ rfl).1
  clear hb1
  go_wp2_with fail
  refine Calls.mono (HFW.out w1 HB1.out) ?_
  rintro e w2 ⟨hb2, rfl | ⟨rfl, hff⟩⟩
  · have HB2 := Lib.hid (HB1.out.trans (hb2.mono HB1.out.size))
    clear hb2
    go_wp2_with fail
    go_ret
    exact retB rfl HB2.out
  have HB2 := Lib.hid (HB1.out.trans (hb2.mono HB1.out.size))
  have HX2 := Lib.hid (HX1.out.later hb2)
  have hgf : GmFew g := ⟨by have := hff.1; omega, by have := hff.2.1; omega, fun i hi => by have := hff.2.2.1 i hi; omega⟩
  have H4 := Lib.hid hff.2.2.2
  have HVR := HVR0
  have HV2 := HV20
  have HP2 := Lib.hid (HP20.out fun h1 h2 => by rw [HN.out.2.1]; exact (hff.2.2.2 h1 h2).1)
  have HVG := Lib.hid (HVG0.out hgf)
  have HV1 := Lib.hid (HV10.out hgf)
  have HP1 := Lib.hid (HP10.out hgf)
  have hn8 : n ≤ 8 := by rw [HN.out.1]; exact hff.1
  clear c0 c1 c2 hb2 hff hgf HVR0 HV20 HP20 HVG0 HV10 HP10
  have c0 := (HX2.out 0 _ rfl).1
  have c1 := (HX2.out 1 _ rfl).1
  have c2 := (HX2.out 2 _ rfl).1
  obtain ⟨V, hV⟩ : ∃ V, V = (valG g).1 := ⟨_, rfl⟩
  obtain ⟨E, hE⟩ : ∃ E, E = (valG g).2 := ⟨_, rfl⟩
  rw [← hV, ← hE] at HV1 HV2
  clear hV hE
  go_wp2_with fail
  refine Calls.mono (HV1.out w2 HB2.out) ?_
  rintro e w3 ⟨rfl, hb3⟩
  have HB3 := Lib.hid (HB2.out.trans (hb3.mono HB2.out.size))
  have HX3 := Lib.hid (HX2.out.later hb3)
  clear c0 c1 c2 hb3
  have c0 := (HX3.out 0 _ rfl).1
  have c1 := (HX3.out 1 _ rfl).1
  have c2 := (HX3.out 2 _ rfl).1
  go_wp2_with fail
  refine Calls.mono (HV2.out w3 HB3.out) ?_
  rintro e w4 ⟨rfl, hb4⟩
  have HB4 := Lib.hid (HB3.out.trans (hb4.mono HB3.out.size))
  have HX4 := Lib.hid (HX3.out.later hb4)
  clear c0 c1 c2 hb4
  have c0 := (HX4.out 0 _ rfl).1
  have c1 := (HX4.out 1 _ rfl).1
  have c2 := (HX4.out 2 _ rfl).1
  go_wp2_with fail
  refine Calls.mono (HP1.out w4 HB4.out) ?_
  rintro e w5 ⟨hb5, hc5⟩
  have HB5 := Lib.hid (HB4.out.trans (hb5.mono HB4.out.size))
  have HX5 := Lib.hid (HX4.out.later hb5)
  clear c0 c1 c2 hb5
  have c0 := (HX5.out 0 _ rfl).1
  have c1 := (HX5.out 1 _ rfl).1
  have c2 := (HX5.out 2 _ rfl).1
  rcases hc5 with ⟨hv, rfl⟩ | ⟨hv, hs, rfl⟩ | ⟨hv, hs, a, c, l, rfl, hpo, hat, hps, hlc, hcm, hll⟩
  · have HV := Lib.hid hv
    rw [vgB_false hv] at HVG HVR
    clear hv
    go_wp2_with fail
    refine Calls.mono (HP2.out w5 HB5.out) ?_
    rintro e w6 ⟨hb6, ⟨_, rfl⟩ | ⟨hv, _⟩ | ⟨hv, _⟩⟩
    · have HSA := Lib.hid (fun wy (_ : Below w6.heap.size w6 wy) => same_nil wy)
      have HBE0 := Lib.hid (HB5.out.trans (hb6.mono HB5.out.size))
      have HX6 := Lib.hid (HX5.out.later hb6)
      clear c0 c1 c2 hb6
      have c0 := (HX6.out 0 _ rfl).1
      have c1 := (HX6.out 1 _ rfl).1
      have c2 := (HX6.out 2 _ rfl).1
      have hS : ∀ wy : World, Below w6.heap.size w6 wy → Below w6.heap.size w6 wy ∧ wy.cell? ⟨w.heap.size, 0, none⟩ = some (.slice sa n sc) ∧ wy.cell? ⟨w.heap.size, 1, none⟩ = some (.slice da nd dc) ∧ wy.cell? ⟨w.heap.size, 2, none⟩ = some (.int .i64 bu) := fun wy hy => ⟨hy, cell_later hy c0, cell_later hy c1, cell_later hy c2⟩
      go_upto_region 8 with fail
      clear c0 c1 c2
      refine wp_flow_s [] [] (by kernel_rfl) (by kernel_rfl) (by kernel_rfl) ?_
      repeat (first | ((with_reducible refine Flow.pure hS StayG.nil (v := ?_) ?_ ?_ ?_ ?_); rotate_left 1; (focus kernel_rfl); (focus (intro _; rfl)); (focus (intro β wx hSw; (try dsimp only at hSw); go_simp; (try with_reducible rfl); done)); (try simp only [Act.put, List.setIfInBounds_toArray, List.set_cons_zero, List.set_cons_succ, Nat.reduceAdd])) | ((with_reducible refine Flow.skip StayG.nil ?_ ?_ ?_); (focus kernel_rfl); (focus (intro _; rfl)); (try simp only [Act.put, List.setIfInBounds_toArray, List.set_cons_zero, List.set_cons_succ, Nat.reduceAdd])) | ((with_reducible refine Flow.call hS StayG.nil (v := ?_) ?_ ?_ ?_ ?_); rotate_left 1; (focus kernel_rfl); (focus (intro _; rfl)); (focus (intro β L wx hI hat hSw K' hK; (try dsimp only at hSw); go_simp; go_at_call 15; refine Calls.mono (HVG.out _ (HBE0.out.trans (hSw.1.mono HBE0.out.size))) ?_; rintro e w' ⟨rfl, hb'⟩; exact hK.out _ hb')); (try simp only [Act.put, List.setIfInBounds_toArray, List.set_cons_zero, List.set_cons_succ, Nat.reduceAdd])) | ((with_reducible refine Flow.call hS StayG.nil (v := ?_) ?_ ?_ ?_ ?_); rotate_left 1; (focus kernel_rfl); (focus (intro _; rfl)); (focus (intro β L wx hI hat hSw K' hK; (try dsimp only at hSw); go_simp; go_at_call 16; refine Calls.mono (HVR.out _ (HBE0.out.trans (hSw.1.mono HBE0.out.size))) ?_; rintro e w' ⟨rfl, hb'⟩; exact hK.out _ hb')); (try simp only [Act.put, List.setIfInBounds_toArray, List.set_cons_zero, List.set_cons_succ, Nat.reduceAdd])) | ((with_reducible refine Flow.call hS StayG.nil (v := ?_) ?_ ?_ ?_ ?_); rotate_left 1; (focus kernel_rfl); (focus (intro _; rfl)); (focus (intro β L wx hI hat hSw K' hK; (try dsimp only at hSw); go_simp; go_at_call 17; refine Calls.mono (HSA.out _ hSw.1) ?_; rintro e w' ⟨rfl, hb'⟩; exact hK.out _ hb')); (try simp only [Act.put, List.setIfInBounds_toArray, List.set_cons_zero, List.set_cons_succ, Nat.reduceAdd])))
      ((with_reducible refine Flow.stop ?_); dsimp only; intro β w8 hI8)
      have HBE := Lib.hid (HBE0.out.trans (hI8.below.mono HBE0.out.size))
      clear hS hI8
      go_wp2_with fail
      go_ret
      exact retB rfl HBE.out
    · exact absurd hv HV.out
    · exact absurd hv HV.out
  · have HV := Lib.hid hv
    have HS := Lib.hid hs
    rw [vgB_true hv] at HVG HVR
    clear hv hs
    go_wp2_with fail
    refine Calls.mono (HP2.out w5 HB5.out) ?_
    rintro e w6 ⟨hb6, ⟨hv, _⟩ | ⟨_, _, rfl⟩ | ⟨_, hs, _⟩⟩
    · exact absurd HV.out hv
    · have HSA := Lib.hid (fun wy (_ : Below w6.heap.size w6 wy) => same_nil wy)
      have HBE0 := Lib.hid (HB5.out.trans (hb6.mono HB5.out.size))
      have HX6 := Lib.hid (HX5.out.later hb6)
      clear c0 c1 c2 hb6
      have c0 := (HX6.out 0 _ rfl).1
      have c1 := (HX6.out 1 _ rfl).1
      have c2 := (HX6.out 2 _ rfl).1
      have hS : ∀ wy : World, Below w6.heap.size w6 wy → Below w6.heap.size w6 wy ∧ wy.cell? ⟨w.heap.size, 0, none⟩ = some (.slice sa n sc) ∧ wy.cell? ⟨w.heap.size, 1, none⟩ = some (.slice da nd dc) ∧ wy.cell? ⟨w.heap.size, 2, none⟩ = some (.int .i64 bu) := fun wy hy => ⟨hy, cell_later hy c0, cell_later hy c1, cell_later hy c2⟩
      go_upto_region 8 with fail
      clear c0 c1 c2
      refine wp_flow_s [] [] (by kernel_rfl) (by kernel_rfl) (by kernel_rfl) ?_
      repeat (first | ((with_reducible refine Flow.pure hS StayG.nil (v := ?_) ?_ ?_ ?_ ?_); rotate_left 1; (focus kernel_rfl); (focus (intro _; rfl)); (focus (intro β wx hSw; (try dsimp only at hSw); go_simp; (try with_reducible rfl); done)); (try simp only [Act.put, List.setIfInBounds_toArray, List.set_cons_zero, List.set_cons_succ, Nat.reduceAdd])) | ((with_reducible refine Flow.skip StayG.nil ?_ ?_ ?_); (focus kernel_rfl); (focus (intro _; rfl)); (try simp only [Act.put, List.setIfInBounds_toArray, List.set_cons_zero, List.set_cons_succ, Nat.reduceAdd])) | ((with_reducible refine Flow.call hS StayG.nil (v := ?_) ?_ ?_ ?_ ?_); rotate_left 1; (focus kernel_rfl); (focus (intro _; rfl)); (focus (intro β L wx hI hat hSw K' hK; (try dsimp only at hSw); go_simp; go_at_call 15; refine Calls.mono (HVG.out _ (HBE0.out.trans (hSw.1.mono HBE0.out.size))) ?_; rintro e w' ⟨rfl, hb'⟩; exact hK.out _ hb')); (try simp only [Act.put, List.setIfInBounds_toArray, List.set_cons_zero, List.set_cons_succ, Nat.reduceAdd])) | ((with_reducible refine Flow.call hS StayG.nil (v := ?_) ?_ ?_ ?_ ?_); rotate_left 1; (focus kernel_rfl); (focus (intro _; rfl)); (focus (intro β L wx hI hat hSw K' hK; (try dsimp only at hSw); go_simp; go_at_call 16; refine Calls.mono (HVR.out _ (HBE0.out.trans (hSw.1.mono HBE0.out.size))) ?_; rintro e w' ⟨rfl, hb'⟩; exact hK.out _ hb')); (try simp only [Act.put, List.setIfInBounds_toArray, List.set_cons_zero, List.set_cons_succ, Nat.reduceAdd])) | ((with_reducible refine Flow.call hS StayG.nil (v := ?_) ?_ ?_ ?_ ?_); rotate_left 1; (focus kernel_rfl); (focus (intro _; rfl)); (focus (intro β L wx hI hat hSw K' hK; (try dsimp only at hSw); go_simp; go_at_call 17; refine Calls.mono (HSA.out _ hSw.1) ?_; rintro e w' ⟨rfl, hb'⟩; exact hK.out _ hb')); (try simp only [Act.put, List.setIfInBounds_toArray, List.set_cons_zero, List.set_cons_succ, Nat.reduceAdd])))
      ((with_reducible refine Flow.stop ?_); dsimp only; intro β w8 hI8)
      have HBE := Lib.hid (HBE0.out.trans (hI8.below.mono HBE0.out.size))
      clear hS hI8
      go_wp2_with fail
      go_ret
      exact retB rfl HBE.out
    · exact absurd hs HS.out
  · have HV := Lib.hid hv
    have HS := Lib.hid hs
    have hpr := hpo.rows hv
    have HPR := Lib.hid hpr
    have HPO := Lib.hid hpo
    have HLI := Lib.hid (show LiI n n w5 a l from ⟨hat, hps, fun x hx => by
      have h := (hpr.dom x hx).1
      have h1 : x.1.starts.length = g.starts.length := h.ls
      have h2 : x.1.failed.length = g.starts.length := h.lf
      rw [HN.out.1]
      exact ⟨h1, h2⟩⟩)
    have HLB := Lib.hid (show l.length ≤ 100000000 from by
      have h1 := hpo.p.length_eq
      rw [List.length_map, List.length_map] at h1
      have h2 := followL_len hv g.deps.length (beginS g) [] (Dom.begin hv) (by show (0 : Int) + _ ≤ _; omega)
      have h3 := (H4.out hv hs).1
      have h4 : NF g.deps.length ≤ 1000000 := by
        have : g.deps.length = 0 ∨ g.deps.length = 1 ∨ g.deps.length = 2 ∨ g.deps.length = 3 ∨ g.deps.length = 4 := by omega
        rcases this with e | e | e | e | e <;> rw [e] <;> decide
      rw [h1]
      have h5 : ([] : List St).length = 0 := rfl
      omega)
    rw [vgB_true hv] at HVG HVR
    obtain ⟨ll, hll2⟩ : ∃ x, x = l.length := ⟨_, rfl⟩
    rw [← hll2]
    have HLL := Lib.hid hll2
    clear hv hs hpr hpo hat hps hlc hcm hll hll2
    go_wp2_with fail
    refine Calls.mono (HP2.out w5 HB5.out) ?_
    rintro e w6 ⟨hb6, ⟨hv, _⟩ | ⟨_, hs, _⟩ | ⟨_, _, a2, c2', k, rfl, ho, hli⟩⟩
    · exact absurd HV.out hv
    · exact absurd HS.out hs
    · have heq := plans_eq l k HPR.out HPO.out ho
      obtain ⟨kl, hkl⟩ : ∃ x, x = k.length := ⟨_, rfl⟩
      have hlik : LiI n n w6 a2 k := by rw [HN.out.1]; exact hli
      have hlil := HLI.out.later hb6
      have HSA := Lib.hid (fun wy (hy : Below w6.heap.size w6 wy) => (show Calls Try.prog 17 #[.slice a ll c, .slice a2 kl c2'] wy (RetB (.bool true) wy) from by
        rw [HLL.out, hkl]
        exact same_any n l k a a2 c c2' wy (hlil.later hy) (hlik.later hy) heq (by omega) HLB.out))
      rw [← hkl]
      clear heq hkl hlik hlil ho hli
      have HBE0 := Lib.hid (HB5.out.trans (hb6.mono HB5.out.size))
      have HX6 := Lib.hid (HX5.out.later hb6)
      clear c0 c1 c2 hb6
      have c0 := (HX6.out 0 _ rfl).1
      have c1 := (HX6.out 1 _ rfl).1
      have c2 := (HX6.out 2 _ rfl).1
      have hS : ∀ wy : World, Below w6.heap.size w6 wy → Below w6.heap.size w6 wy ∧ wy.cell? ⟨w.heap.size, 0, none⟩ = some (.slice sa n sc) ∧ wy.cell? ⟨w.heap.size, 1, none⟩ = some (.slice da nd dc) ∧ wy.cell? ⟨w.heap.size, 2, none⟩ = some (.int .i64 bu) := fun wy hy => ⟨hy, cell_later hy c0, cell_later hy c1, cell_later hy c2⟩
      go_upto_region 8 with fail
      clear c0 c1 c2
      refine wp_flow_s [] [] (by kernel_rfl) (by kernel_rfl) (by kernel_rfl) ?_
      repeat (first | ((with_reducible refine Flow.pure hS StayG.nil (v := ?_) ?_ ?_ ?_ ?_); rotate_left 1; (focus kernel_rfl); (focus (intro _; rfl)); (focus (intro β wx hSw; (try dsimp only at hSw); go_simp; (try with_reducible rfl); done)); (try simp only [Act.put, List.setIfInBounds_toArray, List.set_cons_zero, List.set_cons_succ, Nat.reduceAdd])) | ((with_reducible refine Flow.skip StayG.nil ?_ ?_ ?_); (focus kernel_rfl); (focus (intro _; rfl)); (try simp only [Act.put, List.setIfInBounds_toArray, List.set_cons_zero, List.set_cons_succ, Nat.reduceAdd])) | ((with_reducible refine Flow.call hS StayG.nil (v := ?_) ?_ ?_ ?_ ?_); rotate_left 1; (focus kernel_rfl); (focus (intro _; rfl)); (focus (intro β L wx hI hat hSw K' hK; (try dsimp only at hSw); go_simp; go_at_call 15; refine Calls.mono (HVG.out _ (HBE0.out.trans (hSw.1.mono HBE0.out.size))) ?_; rintro e w' ⟨rfl, hb'⟩; exact hK.out _ hb')); (try simp only [Act.put, List.setIfInBounds_toArray, List.set_cons_zero, List.set_cons_succ, Nat.reduceAdd])) | ((with_reducible refine Flow.call hS StayG.nil (v := ?_) ?_ ?_ ?_ ?_); rotate_left 1; (focus kernel_rfl); (focus (intro _; rfl)); (focus (intro β L wx hI hat hSw K' hK; (try dsimp only at hSw); go_simp; go_at_call 16; refine Calls.mono (HVR.out _ (HBE0.out.trans (hSw.1.mono HBE0.out.size))) ?_; rintro e w' ⟨rfl, hb'⟩; exact hK.out _ hb')); (try simp only [Act.put, List.setIfInBounds_toArray, List.set_cons_zero, List.set_cons_succ, Nat.reduceAdd])) | ((with_reducible refine Flow.call hS StayG.nil (v := ?_) ?_ ?_ ?_ ?_); rotate_left 1; (focus kernel_rfl); (focus (intro _; rfl)); (focus (intro β L wx hI hat hSw K' hK; (try dsimp only at hSw); go_simp; go_at_call 17; refine Calls.mono (HSA.out _ hSw.1) ?_; rintro e w' ⟨rfl, hb'⟩; exact hK.out _ hb')); (try simp only [Act.put, List.setIfInBounds_toArray, List.set_cons_zero, List.set_cons_succ, Nat.reduceAdd])))
      ((with_reducible refine Flow.stop ?_); dsimp only; intro β w8 hI8)
      have HBE := Lib.hid (HBE0.out.trans (hI8.below.mono HBE0.out.size))
      clear hS hI8
      go_wp2_with fail
      go_ret
      exact retB rfl HBE.out
theorem walk (W : World) (g : Gm) (ga : Option Addr) (gc : Nat) (gd : Option Addr) (ge : Nat) (gG : GmAt W g ga gd) (gB : GmBig g) :
    Calls Try.prog 3 #[gmV g ga gc gd ge] W (RetB (.bool true) W) := all g ga gd gc ge W gG gB
end GameMatchesReference
namespace GameMatchesReference
set_option maxRecDepth 100000 in
theorem entry (H : Type) (enc : TypeId × Value → H) (W : World) (base : Nat) (args : Array Value) (ds : List (DataW H)) (p : List MemPlace)
    (hval : ∀ (j : Nat) t v, Try.f3.params[j]? = some t → args[j]? = some v → Value.okWide Try.prog W .any base t v)
    (hA : DataW.TrodAll enc Try.prog W 0 (fun _ => true) true Try.f3.params.toList args.toList ds p) :
    Calls Try.prog 3 args W (RetB (.bool true) W) := by
  rw [Try.params3] at hA hval
  obtain ⟨v0, vs0, d0, ds0, p0, q0, hargs, rfl, rfl, h0, r0⟩ := trodAll_cons hA
  obtain ⟨rfl, rfl, rfl⟩ := trodAll_nil r0
  obtain rfl : args = #[v0] := by cases args; simp_all
  obtain ⟨g, ga, gc, gd, ge, rfl, gG, gB⟩ := open_game (hval 0 25 v0 rfl rfl) h0
  exact walk W g ga gc gd ge gG gB
end GameMatchesReference
/-! The step from the walk to the row of GameMatchesReference. -/
namespace GameMatchesReference
set_option maxRecDepth 100000 in
theorem lifted (os : Os) (started : os.Started) (H : Type) (enc : TypeId × Value → H) :
    ReturnsInHanded {} Try.checked os 3 .any (Rows.gameMatchesReferenceSpec.pre6 enc Try.prog Try.f3 Rows.gameMatchesReferenceRow.domain false) (Rows.gameMatchesReferenceSpec.post enc Try.prog Try.f3 false true false false) := by
  refine returnsInHanded_of_change (C := Try.checked) own started (by kernel_rfl) Try.func3
    (ChangeSpec.witness6 (enc := enc) (C := Try.checked) false ⟨#[], #[.agg #[.slice none 0 0, .slice none 0 0, .int .i64 0]], []⟩ 8 (by kernel_rfl) (by kernel_rfl) (by kernel_rfl) (by kernel_rfl)) ?_
  intro W base args ds gs before hval0 hW hcnd _
  have hval : ∀ (j : Nat) t v, Try.f3.params[j]? = some t → args[j]? = some v → Value.okWide Try.prog W .any base t v := hval0
  have hW' := hW
  obtain ⟨p, q, hA0, hV, rfl, hfz, hnd⟩ := hW
  have hA : DataW.TrodAll enc Try.prog W 0 (fun _ => true) true Try.f3.params.toList args.toList ds p := hA0
  obtain ⟨rfl, rfl⟩ := trodVars_none hV
  have hlen := trodAll_len _ _ _ _ hA
  obtain ⟨d0, rfl⟩ : ∃ d0, ds = [d0] := by
    rw [Try.params3] at hlen
    exact list1 hlen
  refine (entry H enc W base args [d0] p hval hA).mono fun e W' ⟨he, bel⟩ => ?_
  subst he
  exact ⟨_, rfl, _, _, _, [], _, [], hW', trodAll_mk1 (shut_bool Try.underlying4 _), readback laidOut _ _ _ _ (by rw [Try.params3]; exact of_decide_eq_true (by kernel_rfl)) hA bel, rfl, bel.frame _, fun h => by cases h⟩

theorem over : Rows.gameMatchesReferenceRow.holds Try.pinned (OpenSpec.ofChange Rows.gameMatchesReferenceSpec) :=
  OpenClaim.holds_of_wide 3 Try.f3 rfl rfl rfl rfl rfl rfl rfl ⟨rfl, rfl, rfl, rfl, rfl⟩ rfl rfl rfl rfl rfl (by kernel_rfl) Try.func3 (by kernel_rfl)
    (of_decide_eq_true (by kernel_rfl)) (by unfold Func.isWrapper; first | (rw [if_pos (by decide +kernel)]; kernel_rfl) | (rw [if_neg (by decide +kernel)]; exact ⟨rfl, rfl⟩))
    (fun os started H enc _ => lifted os started H enc)

/-- THE STATEMENT -/
theorem proved : Rows.GameMatchesReferenceSaid := over
end GameMatchesReference
#print axioms GameMatchesReference.proved
end Go.Proofs.Ytlkknoooeldomaa

