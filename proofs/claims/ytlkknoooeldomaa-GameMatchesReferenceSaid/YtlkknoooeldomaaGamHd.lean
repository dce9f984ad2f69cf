

/- Package bogielaw40: head. -/
import Derived.Test.YtlkknoooeldomaaGamRb
namespace Go.Proofs.Ytlkknoooeldomaa
open Go.RowKit

def exG (b : Int) : Gm := ⟨[1, 2], [[0, 1], [0, 1], [0, 1]], b⟩
theorem exG_vg {b : Int} (h : b = 0 ∨ b = 1) : VG (exG b) := by
  refine ⟨by show 2 ≤ 6; decide, by show 3 ≤ 12; decide, by show 0 ≤ b; omega, by show b ≤ 3; omega, fun i hi => ?_, fun i hi => ?_⟩
  · have hi' : i < 2 := hi
    have : i = 0 ∨ i = 1 := by omega
    show 0 ≤ ig [1, 2] i ∧ ig [1, 2] i ≤ 12
    rcases this with rfl | rfl <;> exact ⟨by decide, by decide⟩
  · have hi' : i < 3 := hi
    have e : dg (exG b) i = [0, 1] := by
      have : i = 0 ∨ i = 1 ∨ i = 2 := by omega
      rcases this with rfl | rfl | rfl <;> rfl
    rw [e]
    intro j hj
    have hj' : j < 2 := hj
    have : j = 0 ∨ j = 1 := by omega
    show _ < ig [0, 1] j ∧ ig [0, 1] j < ((2 : Nat) : Int)
    rcases this with rfl | rfl <;> exact ⟨by decide, by decide⟩
theorem exG_sm {b : Int} (h : b = 0 ∨ b = 1) : SmG (exG b) := by
  rcases h with rfl | rfl
  · show szG (exG 0) 2 ≤ 200000
    decide
  · show szG (exG 1) 2 ≤ 200000
    decide
theorem exG_v1 : WG (exG 1) (beginS (exG 1)) = 2 := by kernel_rfl
theorem exG_v0 : WG (exG 0) (beginS (exG 0)) = 0 := by kernel_rfl
def exL : List Pos := [⟨0, [1, 2], [false, false], 0, 0, 0⟩, ⟨1, [0, 2], [false, false], 0, 1, 0⟩, ⟨2, [0, 1], [false, false], 0, 1, 0⟩]
theorem exG_plan : (followL (exG 0) (exG 0).deps.length (beginS (exG 0)) []).map (posS (exG 0)) = exL := by kernel_rfl
theorem sorted_perm : ∀ {P L : List Pos}, P.Perm L → P.Pairwise (fun x y => ¬ cmpP y x < 0) → L.Pairwise (fun x y => cmpP x y < 0) → P = L
  | [], [], _, _, _ => rfl
  | [], _ :: _, h, _, _ => by have := h.length_eq; simp at this
  | _ :: _, [], h, _, _ => by have := h.length_eq; simp at this
  | b :: P, a :: L, h, hp, hl => by
    have hab : a = b := by
      have h1 : b ∈ a :: L := h.mem_iff.1 (by simp)
      have h2 : a ∈ b :: P := h.mem_iff.2 (by simp)
      rcases List.mem_cons.1 h1 with e | h1
      · exact e.symm
      · rcases List.mem_cons.1 h2 with e | h2
        · exact e
        · have h3 := (List.pairwise_cons.1 hl).1 b h1
          have h4 := (List.pairwise_cons.1 hp).1 a h2
          exact absurd h3 h4
    subst hab
    rw [sorted_perm ((List.perm_cons a).1 h) (List.pairwise_cons.1 hp).2 (List.pairwise_cons.1 hl).2]
theorem exG_of {P : List Pos} (h : PlanOf (exG 0) P) : P = exL := by
  have hp := h.p
  rw [exG_plan] at hp
  exact sorted_perm hp h.s (by simp only [exL, List.pairwise_cons, List.mem_cons, List.not_mem_nil, or_false, forall_eq_or_imp, forall_eq]; exact ⟨⟨by decide, by decide⟩, by decide, fun _ h => h.elim, List.Pairwise.nil⟩)
set_option maxRecDepth 100000 in
set_option maxHeartbeats 4000000 in
theorem example_any (b : Int) (w : World) : Calls Try.prog 25 #[.int .i64 b] w fun e w' => ∃ sa da, e = .returned (gmV (exG b) sa 2 da 3) ∧ GmAt w' (exG b) sa da ∧ Below w.heap.size w w' := by
  go_enter Try.func25, Try.ntmps25
  go_wp2_with fail
  suffices hfin : ∀ w', w' = ((((w.alloc (.cells #[.slice (some ⟨w.heap.size + 1 + 1, 0, none⟩) 2 2, .slice (some ⟨w.heap.size + 1 + 1 + 1, 0, none⟩) 3 3, .int .i64 b] 25)).alloc (.cells #[.int .i64 0, .int .i64 1] 3)).alloc (.cells #[.int .i64 1, .int .i64 2] 3)).alloc (.cells #[.slice (some ⟨w.heap.size + 1, 0, none⟩) 2 2, .slice (some ⟨w.heap.size + 1, 0, none⟩) 2 2, .slice (some ⟨w.heap.size + 1, 0, none⟩) 2 2] 22)) →
      BoxAt w' w.heap.size [.slice (some ⟨w.heap.size + 1 + 1, 0, none⟩) 2 2, .slice (some ⟨w.heap.size + 1 + 1 + 1, 0, none⟩) 3 3, .int .i64 b] ∧ GmAt w' (exG b) (some ⟨w.heap.size + 1 + 1, 0, none⟩) (some ⟨w.heap.size + 1 + 1 + 1, 0, none⟩) ∧ Below w.heap.size w w' by
    obtain ⟨h1, h2, h3⟩ := hfin _ rfl
    exact bodyPost_ret (results_cell (p := ⟨w.heap.size, 0, none⟩) rfl rfl (run_loadVar_mid _ w.heap.size 0 25 [.slice (some ⟨w.heap.size + 1 + 1, 0, none⟩) 2 2, .slice (some ⟨w.heap.size + 1 + 1 + 1, 0, none⟩) 3 3, .int .i64 b] _ (box_range h1) Try.underlying25 rfl (by kernel_rfl))) rfl ⟨_, _, rfl, h2, h3⟩
  intro w' hw'
  obtain ⟨x, hx⟩ : ∃ x, x = (w.alloc (.cells #[.slice (some ⟨w.heap.size + 1 + 1, 0, none⟩) 2 2, .slice (some ⟨w.heap.size + 1 + 1 + 1, 0, none⟩) 3 3, .int .i64 b] 25)).alloc (.cells #[.int .i64 0, .int .i64 1] 3) := ⟨_, rfl⟩
  rw [← hx] at hw'
  obtain ⟨p1, p2, ⟨p3, _⟩, p4, _⟩ := alloc2t w [.slice (some ⟨w.heap.size + 1 + 1, 0, none⟩) 2 2, .slice (some ⟨w.heap.size + 1 + 1 + 1, 0, none⟩) 3 3, .int .i64 b] [.int .i64 0, .int .i64 1] _ _ x hx
  obtain ⟨q1, q2, ⟨q3, _⟩, q4, _⟩ := alloc2t x [.int .i64 1, .int .i64 2] [.slice (some ⟨w.heap.size + 1, 0, none⟩) 2 2, .slice (some ⟨w.heap.size + 1, 0, none⟩) 2 2, .slice (some ⟨w.heap.size + 1, 0, none⟩) 2 2] _ _ w' hw'
  rw [p2] at q2 q3 q4
  have hrow : Ints w' (some ⟨w.heap.size + 1, 0, none⟩) [0, 1] := fun j hj => by
    have h2 := p4.later q1
    have : j = 0 ∨ j = 1 := by simp at hj; omega
    rcases this with rfl | rfl
    · exact ⟨_, 0, rfl, (h2 0 _ rfl).1⟩
    · exact ⟨_, 0, rfl, (h2 1 _ rfl).1⟩
  refine ⟨p3.later q1, ⟨fun j hj => ?_, fun j hj => ?_⟩, p1.trans (q1.mono (by omega))⟩
  · have : j = 0 ∨ j = 1 := by have hj' : j < 2 := hj; omega
    rcases this with rfl | rfl
    · exact ⟨_, 0, rfl, (q3 0 _ rfl).1⟩
    · exact ⟨_, 0, rfl, (q3 1 _ rfl).1⟩
  · have : j = 0 ∨ j = 1 ∨ j = 2 := by have hj' : j < 3 := hj; omega
    rcases this with rfl | rfl | rfl
    · exact ⟨_, 0, _, 2, rfl, (q4 0 _ rfl).1, hrow⟩
    · exact ⟨_, 0, _, 2, rfl, (q4 1 _ rfl).1, hrow⟩
    · exact ⟨_, 0, _, 2, rfl, (q4 2 _ rfl).1, hrow⟩
theorem exG_few {b : Int} : GmFew (exG b) := ⟨by show 2 ≤ 1000; decide, by show 3 ≤ 1000; decide, fun i hi => by
  have hi' : i < 3 := hi
  have : i = 0 ∨ i = 1 ∨ i = 2 := by omega
  rcases this with rfl | rfl | rfl
  · show 2 ≤ 1000; decide
  · show 2 ≤ 1000; decide
  · show 2 ≤ 1000; decide⟩
theorem exG_val1 : valG (exG 1) = (2, 0) := by rw [valG_ok (exG_vg (.inr rfl)) (exG_sm (.inr rfl)), exG_v1]
theorem exG_val0 : valG (exG 0) = (0, 0) := by rw [valG_ok (exG_vg (.inl rfl)) (exG_sm (.inl rfl)), exG_v0]
set_option maxRecDepth 100000 in
set_option maxHeartbeats 8000000 in
theorem head_any (w : World) : Calls Try.prog 9 #[] w (RetB (.bool true) w) := by
  have hV1 := Lib.hid (fun (wy : World) (sa da : Option Addr) (h : GmAt wy (exG 1) sa da) => (show Calls Try.prog 11 #[gmV (exG 1) sa 2 da 3] wy (RetB (.tuple #[.int .i64 2, .int .i64 0]) wy) from by have := value_any (exG 1) sa da 2 3 wy h exG_few; rw [exG_val1] at this; exact this))
  have hV0 := Lib.hid (fun (wy : World) (sa da : Option Addr) (h : GmAt wy (exG 0) sa da) => (show Calls Try.prog 11 #[gmV (exG 0) sa 2 da 3] wy (RetB (.tuple #[.int .i64 0, .int .i64 0]) wy) from by have := value_any (exG 0) sa da 2 3 wy h exG_few; rw [exG_val0] at this; exact this))
  have hP := Lib.hid (fun (wy : World) (sa da : Option Addr) (h : GmAt wy (exG 0) sa da) => plan_any (exG 0) sa da 2 3 wy h exG_few)
  go_enter Try.func9, Try.ntmps9
  go_wp2_with fail
  refine Calls.mono (example_any 1 w) ?_
  rintro e w1 ⟨sa, da, rfl, hg1, hb1⟩
  have HG1 := Lib.hid hg1
  have HB1 := Lib.hid hb1
  clear hg1 hb1
  go_wp2_with fail
  refine Calls.mono (hV1.out w1 sa da HG1.out) ?_
  rintro e w2 ⟨rfl, hb2⟩
  have HB2 := Lib.hid (HB1.out.trans (hb2.mono HB1.out.size))
  clear hb2
  go_wp2_with fail
  refine Calls.mono (example_any 0 w2) ?_
  rintro e w3 ⟨sa3, da3, rfl, hg3, hb3⟩
  have HG3 := Lib.hid hg3
  have HB3 := Lib.hid (HB2.out.trans (hb3.mono HB2.out.size))
  clear hg3 hb3
  go_wp2_with fail
  refine Calls.mono (hV0.out w3 sa3 da3 HG3.out) ?_
  rintro e w4 ⟨rfl, hb4⟩
  have HB4 := Lib.hid (HB3.out.trans (hb4.mono HB3.out.size))
  clear hb4
  go_wp2_with fail
  refine Calls.mono (example_any 0 w4) ?_
  rintro e w5 ⟨sa5, da5, rfl, hg5, hb5⟩
  have HG5 := Lib.hid hg5
  have HB5 := Lib.hid (HB4.out.trans (hb5.mono HB4.out.size))
  clear hg5 hb5
  go_wp2_with fail
  refine Calls.mono (hP.out w5 sa5 da5 HG5.out) ?_
  rintro e w6 ⟨hb6, ⟨h1, _⟩ | ⟨_, h2, _⟩ | ⟨_, _, a, c, l, rfl, hpo, hat, hps, hlc, hcm, _⟩⟩
  · exact absurd (exG_vg (.inl rfl)) h1
  · exact absurd (exG_sm (.inl rfl)) h2
  · have HB6 := Lib.hid (HB5.out.trans (hb6.mono HB5.out.size))
    have hl := exG_of hpo
    have hlen : l.length = 3 := by have := congrArg List.length hl; simpa [exL] using this
    obtain ⟨ab, ao, rfl, hcell⟩ := hat.head (by omega)
    match l, hl, hlen, hcell with
    | [x0, x1, x2], hl, _, hcell =>
      simp only [List.map_cons, List.map_nil, exL, List.cons.injEq, and_true] at hl
      obtain ⟨e0, e1, e2⟩ := hl
      have k0 := hcell 4 (.int .i64 x0.1.choice) rfl
      have k1 := hcell 5 (.int .i64 x0.1.bound) rfl
      have k2 := hcell 10 (.int .i64 x1.1.choice) rfl
      have k3 := hcell 16 (.int .i64 x2.1.choice) rfl
      rw [e0] at k0 k1
      rw [e1] at k2
      rw [e2] at k3
      clear hcell e0 e1 e2 hpo hat hps hb6 hlc hcm
      go_wp2_with fail
      go_ret
      exact retB rfl HB6.out
end Go.Proofs.Ytlkknoooeldomaa

