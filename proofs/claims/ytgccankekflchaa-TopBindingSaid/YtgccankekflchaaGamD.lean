

/- Package game: moves. -/
import Derived.Test.YtgccankekflchaaGamC
import Derived.Test.YtgccankekflchaaRangeC
import Derived.Shelf.Abstract
import Derived.Shelf.RegionOpen
import Derived.WalkKit
import Derived.OwnWalkIn
import Derived.TacticsInMore
import Derived.LoopNIn
import Derived.LoopIn
import Derived.Sort.CutIn
namespace Go.Proofs.Ytgccankekflchaa
open Go.RowKit Go.Shelf

attribute [local go_sem] Oper.semAt_some

abbrev bdC (g : Gm) (sa : Option Addr) (sc : Nat) (da : Option Addr) (dc : Nat) (M : Nat) : List Value := [.slice sa g.starts.length sc, .slice da g.deps.length dc, .int .i64 g.budget, .map (some M)]
set_option maxHeartbeats 1000000 in
theorem moves_any (g : Gm) (sa da : Option Addr) (sc dc M : Nat) (s : St) (w : World) : Calls Try.prog 17 #[bdV g sa sc da dc M, stV s] w fun e w' =>
    e = .returned (.func (.func 45) #[] #[.pointer (some ⟨w.heap.size + 1, 0, none⟩), .pointer (some ⟨w.heap.size, 0, none⟩)]) ∧ w' = (w.alloc (.cells (bdC g sa sc da dc M).toArray 43)).alloc (.cells (stC s).toArray 47) := by
  unfold bdV stV stC st14
  go_enter Try.func17, Try.ntmps17
  go_wp2_with fail
  go_ret
  exact ⟨rfl, rfl⟩
/-- the vehicles before one that may fail -/
def hitsTo (s : St) (i : Nat) : List Nat := (List.range i).filter (fun v => !bg s.failed v)
theorem hitsTo_succ (s : St) (i : Nat) : hitsTo s (i + 1) = if bg s.failed i then hitsTo s i else hitsTo s i ++ [i] := by
  unfold hitsTo
  rw [List.range_succ, List.filter_append]
  cases h : bg s.failed i <;> simp [h]
def madeTo (s : St) (i : Nat) : List St := s :: (hitsTo s i).map (hit s)
theorem madeTo_zero (s : St) : madeTo s 0 = [s] := rfl
theorem madeTo_succ (s : St) (i : Nat) : madeTo s (i + 1) = if bg s.failed i then madeTo s i else madeTo s i ++ [hit s i] := by
  unfold madeTo
  rw [hitsTo_succ]
  split
  · rfl
  · rw [List.map_append]; rfl
theorem madeTo_all {s : St} (h : 0 < s.budget) : madeTo s s.failed.length = madeL s := by
  unfold madeTo madeL hits hitsTo
  rw [if_pos h]
theorem madeL_none {s : St} (h : s.budget = 0) : madeL s = [s] := by
  unfold madeL hits
  rw [if_neg (by omega)]
  rfl
theorem madeTo_prefix (s : St) {i : Nat} : ∀ {j : Nat}, i ≤ j → madeTo s i <+: madeTo s j
  | 0, h => by rw [Nat.le_zero.1 h]; exact List.prefix_refl _
  | j + 1, h => by
    rcases Nat.lt_or_ge i (j + 1) with h' | h'
    · refine (madeTo_prefix s (show i ≤ j by omega)).trans ?_
      rw [madeTo_succ]
      split
      · exact List.prefix_refl _
      · exact List.prefix_append _ _
    · rw [Nat.le_antisymm h h']; exact List.prefix_refl _
theorem BoxAt.same {w w' : World} {n : Nat} {cs : List Value} (h : BoxAt w n cs) (e : w'.heap[n]? = w.heap[n]?) : BoxAt w' n cs := fun o v ho =>
  ⟨(World.cell?_of_block (a := ⟨n, o, none⟩) e).trans (h o v ho).1, (World.frozen?_of_block (a := ⟨n, o, none⟩) e).trans (h o v ho).2⟩
theorem BoxAt.chg {w w' : World} {S : Nat → Prop} {n : Nat} {cs : List Value} (h : BoxAt w n cs) (hc : Chg S w w') (hn : ¬ S n) (hl : n < w.heap.size) : BoxAt w' n cs := h.same (hc.block n hl hn)
theorem BoxAt.lt {w : World} {n : Nat} {c : Value} {cs : List Value} (h : BoxAt w n (c :: cs)) : n < w.heap.size := World.block_lt_of_cell? _ _ (h 0 _ rfl).1
theorem BoxAt.set {w : World} {n k : Nat} {cs : List Value} {v : Value} (h : BoxAt w n cs) (hk : k < cs.length) : BoxAt (w.setCell ⟨n, k, none⟩ v) n (cs.set k v) := fun o x ho => by
  rw [List.getElem?_set] at ho
  by_cases e : k = o
  · subst e
    rw [if_pos rfl, if_pos hk] at ho
    cases ho
    obtain ⟨h1, h2⟩ := h k _ (List.getElem?_eq_getElem hk)
    refine ⟨?_, ?_⟩
    · simp [go_sem, h1]
    · simp [go_sem, h2]
  · rw [if_neg e] at ho
    obtain ⟨h1, h2⟩ := h o x ho
    refine ⟨?_, ?_⟩
    · rw [← h1]; simp [go_sem]
    · rw [← h2]; simp [go_sem]
theorem bg_setT {l : List Bool} {i : Nat} (hi : i < l.length) (k : Nat) : bg (l.set i true) k = if i = k then true else bg l k := by
  unfold bg
  rw [List.getD_eq_getElem?_getD, List.getD_eq_getElem?_getD, List.getElem?_set]
  by_cases e : i = k
  · rw [if_pos e, if_pos hi, if_pos e]; rfl
  · rw [if_neg e, if_neg e]
set_option maxRecDepth 100000 in
set_option maxHeartbeats 4000000 in
theorem moves1_in (F : Fence) (n : Nat) (h52 : F.fn 45) (hro : F.round = none) (hn : 1 ≤ n) (l Bs Bb : Nat) (g : Gm) (sa da : Option Addr) (sc dc M : Nat) (s : St) (hf : Fit g.starts.length s) (hu : 0 ≤ s.budget ∧ s.budget ≤ 100) (J : List St → World → Prop)
    (hJ : ∀ pre A B, J pre A → Chg (fun k => k = Bs) A B → J pre B)
    (hY : ∀ pre x W1, J pre W1 → (pre ++ [x]) <+: madeL s → YieldAt F (n - 1) Try.prog l #[stV x] W1 fun e W' => e = .returned (.bool true) ∧ J (pre ++ [x]) W' ∧ W1.heap.size ≤ W'.heap.size ∧ ∀ k, k = Bs ∨ k = Bb → W'.heap[k]? = W1.heap[k]?)
    (W : World) (hB : BoxAt W Bs (stC s)) (hb : BoxAt W Bb (bdC g sa sc da dc M)) (hne : Bs ≠ Bb) (h0 : J [] W) :
    CallsIn F n Try.prog 45 #[.func (.yield l) #[] #[], .pointer (some ⟨Bs, 0, none⟩), .pointer (some ⟨Bb, 0, none⟩)] W fun e W' => (∃ v, e = .returned v) ∧ J (madeL s) W' := by
  obtain ⟨fn, tmps, assign, body, hy, hR⟩ := hY [] s W h0 (List.prefix_iff_eq_take.2 (by simp [madeL]))
  unfold stV stC st14 at hy
  have b0 := (hB 0 _ rfl).1
  have b1 := (hB 1 _ rfl).1
  have b2 := (hB 2 _ rfl).1
  have b3 := (hB 3 _ rfl).1
  have b4 := (hB 4 _ rfl).1
  have b5 := (hB 5 _ rfl).1
  have b6 := (hB 6 _ rfl).1
  have b7 := (hB 7 _ rfl).1
  have b8 := (hB 8 _ rfl).1
  have b9 := (hB 9 _ rfl).1
  have b10 := (hB 10 _ rfl).1
  have b11 := (hB 11 _ rfl).1
  have b12 := (hB 12 _ rfl).1
  have b13 := (hB 13 _ rfl).1
  have HB := Lib.hid hB
  have HBB := Lib.hid hb
  have HY := Lib.hid hY
  have HJ := Lib.hid hJ
  have HF := Lib.hid hf
  clear hB hb hY hJ hf
  refine callsIn_of_wp Try.func45 rfl h52 ?_ hro
  simp only [Try.ntmps45, List.size_toArray, List.length_cons, List.length_nil, Nat.reduceAdd, Nat.reduceSub, Array.replicate_succ, Array.replicate_zero, List.push_toArray, List.append_toArray, List.nil_append, List.cons_append]
  obtain ⟨u, hu'⟩ : ∃ u, u = s.budget := ⟨_, rfl⟩
  have HU := Lib.hid hu'
  rw [← hu'] at hu hy b13
  clear hu'
  have hw1 : IntKind.i64.wrap (u - 1) = u - 1 := IntWalk.i64_in _ (by omega)
  by_cases hz : u = 0
  · subst hz
    gi_wp2_with (refine hR.mono ?_; rintro e W3 ⟨rfl, hJ3, hs3, hk3⟩; have HB3 := Lib.hid (HB.out.same (hk3 Bs (.inl rfl))); have d13 := (HB3.out 13 _ rfl).1; rw [← HU.out] at d13)
    refine bodyPost_ret (results_none rfl _ _ _) rfl ?_
    refine ⟨⟨_, rfl⟩, ?_⟩
    rw [madeL_none (by rw [← HU.out])]
    exact hJ3
  · gi_upto_region 1 with (refine hR.mono ?_; rintro e W3 ⟨rfl, hJ3, hs3, hk3⟩; have HB3 := Lib.hid (HB.out.same (hk3 Bs (.inl rfl))); have d13 := (HB3.out 13 _ rfl).1; have d13f := (HB3.out 13 _ rfl).2; rw [← HU.out] at d13)
    have HBB3 := Lib.hid (HBB.out.same (hk3 Bb (.inr rfl)))
    have e0 := (HBB3.out 0 _ rfl).1
    have HNE := Lib.hid hne
    have HZ := Lib.hid hz
    clear hne
    clear b0 b1 b2 b3 b4 b5 b6 b7 b8 b9 b10 b11 b12 b13 hy hR hs3 hk3
    gi_upto_region 2 with fail
    obtain ⟨s1, hs1⟩ : ∃ s1 : St, s1 = { s with budget := u - 1 } := ⟨_, rfl⟩
    obtain ⟨w4, hw4, hc4⟩ : ∃ w4, w4 = W3.setCell ⟨Bs, 13, none⟩ (.int .i64 (u - 1)) ∧ Chg (fun k => k = Bs) W3 w4 := ⟨_, rfl, Chg.setCell (S := fun k => k = Bs) (Chg.refl _ _) (p := ⟨Bs, 13, none⟩) (fun _ => rfl) _⟩
    have hB4 : BoxAt w4 Bs (stC s1) := by
      have := HB3.out.set (k := 13) (v := .int .i64 (u - 1)) (by simp [stC])
      rw [hw4, hs1]
      exact this
    have hBb4 : BoxAt w4 Bb (bdC g sa sc da dc M) := HBB3.out.chg hc4 (fun h => HNE.out h.symm) HBB3.out.lt
    rw [← hw4]
    have HB4 := Lib.hid hB4
    have HBB4 := Lib.hid hBb4
    have HJ4 := Lib.hid (HJ.out _ _ _ hJ3 hc4)
    have HS1 := Lib.hid hs1
    have f0 := (hBb4 0 _ rfl).1
    obtain ⟨m, hm⟩ : ∃ m, m = g.starts.length := ⟨_, rfl⟩
    have HM := Lib.hid hm
    rw [← hm] at f0
    have hm6 : m ≤ 6 := by rw [hm]; exact HF.out.m6
    clear hw4 hc4 hB4 hBb4 hs1 e0 d13 d13f HB3 HBB3 hJ3 hm
    gi_upto_region 3 with fail
    have hub : (u == 0) = false := by simp [HZ.out]
    simp only [hub]
    clear hub hz
    gi_loopw [23] (fun i wr => ∃ k : Nat, k ≤ m ∧ i = .int .i64 k ∧ J (madeTo s k) wr ∧ BoxAt wr Bs (stC s1) ∧ BoxAt wr Bb (bdC g sa sc da dc M))
      (fun i _ => ((m : Int) - intOf i).toNat)
    case atStart => exact ⟨0, by omega, by simp, HJ4.out, HB4.out, HBB4.out⟩
    case round =>
      obtain ⟨k, hk, rfl, hJk, hBk, hBbk⟩ := hrel
      have k0 := (hBk 0 _ rfl).1
      have k1 := (hBk 1 _ rfl).1
      have k2 := (hBk 2 _ rfl).1
      have k3 := (hBk 3 _ rfl).1
      have k4 := (hBk 4 _ rfl).1
      have k5 := (hBk 5 _ rfl).1
      have k6 := (hBk 6 _ rfl).1
      have k7 := (hBk 7 _ rfl).1
      have k8 := (hBk 8 _ rfl).1
      have k9 := (hBk 9 _ rfl).1
      have k10 := (hBk 10 _ rfl).1
      have k11 := (hBk 11 _ rfl).1
      have k12 := (hBk 12 _ rfl).1
      have k13 := (hBk 13 _ rfl).1
      have hz := HZ.out
      have hu0 : 0 < s.budget := by rw [← HU.out]; omega
      clear hz
      have HU0 := Lib.hid hu0
      clear hu0
      have HBK := Lib.hid hBk
      have HBBK := Lib.hid hBbk
      clear hBk hBbk
      by_cases hlt : k < m
      · have hpf : bg s.failed k = false → madeTo s k ++ [hit s k] <+: madeL s := fun hfk => by
          have h1 : madeTo s (k + 1) = madeTo s k ++ [hit s k] := by rw [madeTo_succ, hfk]; rfl
          have h2 : madeL s = madeTo s m := by rw [← madeTo_all HU0.out, HF.out.lf, HM.out]
          rw [← h1, h2]
          exact madeTo_prefix s hlt
        have hk6 : k = 0 ∨ k = 1 ∨ k = 2 ∨ k = 3 ∨ k = 4 ∨ k = 5 := by omega
        rcases hk6 with rfl | rfl | rfl | rfl | rfl | rfl
        ·
          rcases Bool.eq_false_or_eq_true (bg s.failed 0) with hfk | hfk
          rotate_left
          · have hpk := hpf hfk
            have hf1 : bg s1.failed 0 = false := by rw [HS1.out]; exact hfk
            have HFK := Lib.hid hfk
            clear hfk
            rw [hf1] at k7
            clear hf1
            gi_upto_region 8 with fail
            obtain ⟨w5, hw5, hb5, hB5⟩ : ∃ w5, w5 = wr.alloc (.cells #[.int .i64 s1.turn, .int .i64 (ig s1.starts 0), .int .i64 (ig s1.starts 1), .int .i64 (ig s1.starts 2), .int .i64 (ig s1.starts 3), .int .i64 (ig s1.starts 4), .int .i64 (ig s1.starts 5), .bool true, .bool (bg s1.failed 1), .bool (bg s1.failed 2), .bool (bg s1.failed 3), .bool (bg s1.failed 4), .bool (bg s1.failed 5), .int .i64 s1.budget] 47) ∧ Below wr.heap.size wr w5 ∧ BoxAt w5 wr.heap.size (stC (hit s 0)) := ⟨_, rfl, (Below.refl _ _).alloc (Nat.le_refl _) _, by
              have hn := BoxAt.new wr [.int .i64 s1.turn, .int .i64 (ig s1.starts 0), .int .i64 (ig s1.starts 1), .int .i64 (ig s1.starts 2), .int .i64 (ig s1.starts 3), .int .i64 (ig s1.starts 4), .int .i64 (ig s1.starts 5), .bool true, .bool (bg s1.failed 1), .bool (bg s1.failed 2), .bool (bg s1.failed 3), .bool (bg s1.failed 4), .bool (bg s1.failed 5), .int .i64 s1.budget] 47
              have e : stC (hit s 0) = [.int .i64 s1.turn, .int .i64 (ig s1.starts 0), .int .i64 (ig s1.starts 1), .int .i64 (ig s1.starts 2), .int .i64 (ig s1.starts 3), .int .i64 (ig s1.starts 4), .int .i64 (ig s1.starts 5), .bool true, .bool (bg s1.failed 1), .bool (bg s1.failed 2), .bool (bg s1.failed 3), .bool (bg s1.failed 4), .bool (bg s1.failed 5), .int .i64 s1.budget] := by
                have hl : 0 < s.failed.length := by rw [HF.out.lf, ← HM.out]; omega
                rw [HS1.out]
                unfold hit stC
                simp only [bg_setT hl]
                rw [← HU.out]
                rfl
              rw [e]
              exact hn⟩
            rw [← hw5]
            obtain ⟨x, hx⟩ : ∃ x, x = hit s 0 := ⟨_, rfl⟩
            rw [← hx] at hpk hB5
            obtain ⟨fn2, tmps2, assign2, body2, hy2, hR2⟩ := HY.out _ x w5 (HJ.out _ _ _ hJk (Chg.of_below hb5)) hpk
            unfold stV stC st14 at hy2
            have HB6 := Lib.hid (HBK.out.later hb5)
            have HBB6 := Lib.hid (HBBK.out.later hb5)
            have HX := Lib.hid hx
            clear k0 k1 k2 k3 k4 k5 k6 k7 k8 k9 k10 k11 k12 k13 hw5 hpf hx
            have k0 := (hB5 0 _ rfl).1
            have k1 := (hB5 1 _ rfl).1
            have k2 := (hB5 2 _ rfl).1
            have k3 := (hB5 3 _ rfl).1
            have k4 := (hB5 4 _ rfl).1
            have k5 := (hB5 5 _ rfl).1
            have k6 := (hB5 6 _ rfl).1
            have k7 := (hB5 7 _ rfl).1
            have k8 := (hB5 8 _ rfl).1
            have k9 := (hB5 9 _ rfl).1
            have k10 := (hB5 10 _ rfl).1
            have k11 := (hB5 11 _ rfl).1
            have k12 := (hB5 12 _ rfl).1
            have k13 := (hB5 13 _ rfl).1
            clear hB5
            gi_wp2_with (refine hR2.mono ?_; rintro e W6 ⟨rfl, hJ6, hs6, hk6⟩)
            refine ⟨⟨0 + 1, by omega, by simp, by rw [madeTo_succ, HFK.out]; rw [HX.out] at hJ6; exact hJ6, HB6.out.same (hk6 Bs (.inl rfl)), HBB6.out.same (hk6 Bb (.inr rfl))⟩, ?_⟩
            simp [intOf]; omega
          · have hf1 : bg s1.failed 0 = true := by rw [HS1.out]; exact hfk
            rw [hf1] at k7
            have HFK := Lib.hid hfk
            clear hf1 hpf hfk
            gi_wp2
            refine ⟨⟨0 + 1, by omega, by simp, by rw [madeTo_succ, HFK.out]; exact hJk, HBK.out, HBBK.out⟩, ?_⟩
            simp [intOf]; omega
        ·
          rcases Bool.eq_false_or_eq_true (bg s.failed 1) with hfk | hfk
          rotate_left
          · have hpk := hpf hfk
            have hf1 : bg s1.failed 1 = false := by rw [HS1.out]; exact hfk
            have HFK := Lib.hid hfk
            clear hfk
            rw [hf1] at k8
            clear hf1
            gi_upto_region 8 with fail
            obtain ⟨w5, hw5, hb5, hB5⟩ : ∃ w5, w5 = wr.alloc (.cells #[.int .i64 s1.turn, .int .i64 (ig s1.starts 0), .int .i64 (ig s1.starts 1), .int .i64 (ig s1.starts 2), .int .i64 (ig s1.starts 3), .int .i64 (ig s1.starts 4), .int .i64 (ig s1.starts 5), .bool (bg s1.failed 0), .bool true, .bool (bg s1.failed 2), .bool (bg s1.failed 3), .bool (bg s1.failed 4), .bool (bg s1.failed 5), .int .i64 s1.budget] 47) ∧ Below wr.heap.size wr w5 ∧ BoxAt w5 wr.heap.size (stC (hit s 1)) := ⟨_, rfl, (Below.refl _ _).alloc (Nat.le_refl _) _, by
              have hn := BoxAt.new wr [.int .i64 s1.turn, .int .i64 (ig s1.starts 0), .int .i64 (ig s1.starts 1), .int .i64 (ig s1.starts 2), .int .i64 (ig s1.starts 3), .int .i64 (ig s1.starts 4), .int .i64 (ig s1.starts 5), .bool (bg s1.failed 0), .bool true, .bool (bg s1.failed 2), .bool (bg s1.failed 3), .bool (bg s1.failed 4), .bool (bg s1.failed 5), .int .i64 s1.budget] 47
              have e : stC (hit s 1) = [.int .i64 s1.turn, .int .i64 (ig s1.starts 0), .int .i64 (ig s1.starts 1), .int .i64 (ig s1.starts 2), .int .i64 (ig s1.starts 3), .int .i64 (ig s1.starts 4), .int .i64 (ig s1.starts 5), .bool (bg s1.failed 0), .bool true, .bool (bg s1.failed 2), .bool (bg s1.failed 3), .bool (bg s1.failed 4), .bool (bg s1.failed 5), .int .i64 s1.budget] := by
                have hl : 1 < s.failed.length := by rw [HF.out.lf, ← HM.out]; omega
                rw [HS1.out]
                unfold hit stC
                simp only [bg_setT hl]
                rw [← HU.out]
                rfl
              rw [e]
              exact hn⟩
            rw [← hw5]
            obtain ⟨x, hx⟩ : ∃ x, x = hit s 1 := ⟨_, rfl⟩
            rw [← hx] at hpk hB5
            obtain ⟨fn2, tmps2, assign2, body2, hy2, hR2⟩ := HY.out _ x w5 (HJ.out _ _ _ hJk (Chg.of_below hb5)) hpk
            unfold stV stC st14 at hy2
            have HB6 := Lib.hid (HBK.out.later hb5)
            have HBB6 := Lib.hid (HBBK.out.later hb5)
            have HX := Lib.hid hx
            clear k0 k1 k2 k3 k4 k5 k6 k7 k8 k9 k10 k11 k12 k13 hw5 hpf hx
            have k0 := (hB5 0 _ rfl).1
            have k1 := (hB5 1 _ rfl).1
            have k2 := (hB5 2 _ rfl).1
            have k3 := (hB5 3 _ rfl).1
            have k4 := (hB5 4 _ rfl).1
            have k5 := (hB5 5 _ rfl).1
            have k6 := (hB5 6 _ rfl).1
            have k7 := (hB5 7 _ rfl).1
            have k8 := (hB5 8 _ rfl).1
            have k9 := (hB5 9 _ rfl).1
            have k10 := (hB5 10 _ rfl).1
            have k11 := (hB5 11 _ rfl).1
            have k12 := (hB5 12 _ rfl).1
            have k13 := (hB5 13 _ rfl).1
            clear hB5
            gi_wp2_with (refine hR2.mono ?_; rintro e W6 ⟨rfl, hJ6, hs6, hk6⟩)
            refine ⟨⟨1 + 1, by omega, by simp, by rw [madeTo_succ, HFK.out]; rw [HX.out] at hJ6; exact hJ6, HB6.out.same (hk6 Bs (.inl rfl)), HBB6.out.same (hk6 Bb (.inr rfl))⟩, ?_⟩
            simp [intOf]; omega
          · have hf1 : bg s1.failed 1 = true := by rw [HS1.out]; exact hfk
            rw [hf1] at k8
            have HFK := Lib.hid hfk
            clear hf1 hpf hfk
            gi_wp2
            refine ⟨⟨1 + 1, by omega, by simp, by rw [madeTo_succ, HFK.out]; exact hJk, HBK.out, HBBK.out⟩, ?_⟩
            simp [intOf]; omega
        ·
          rcases Bool.eq_false_or_eq_true (bg s.failed 2) with hfk | hfk
          rotate_left
          · have hpk := hpf hfk
            have hf1 : bg s1.failed 2 = false := by rw [HS1.out]; exact hfk
            have HFK := Lib.hid hfk
            clear hfk
            rw [hf1] at k9
            clear hf1
            gi_upto_region 8 with fail
            obtain ⟨w5, hw5, hb5, hB5⟩ : ∃ w5, w5 = wr.alloc (.cells #[.int .i64 s1.turn, .int .i64 (ig s1.starts 0), .int .i64 (ig s1.starts 1), .int .i64 (ig s1.starts 2), .int .i64 (ig s1.starts 3), .int .i64 (ig s1.starts 4), .int .i64 (ig s1.starts 5), .bool (bg s1.failed 0), .bool (bg s1.failed 1), .bool true, .bool (bg s1.failed 3), .bool (bg s1.failed 4), .bool (bg s1.failed 5), .int .i64 s1.budget] 47) ∧ Below wr.heap.size wr w5 ∧ BoxAt w5 wr.heap.size (stC (hit s 2)) := ⟨_, rfl, (Below.refl _ _).alloc (Nat.le_refl _) _, by
              have hn := BoxAt.new wr [.int .i64 s1.turn, .int .i64 (ig s1.starts 0), .int .i64 (ig s1.starts 1), .int .i64 (ig s1.starts 2), .int .i64 (ig s1.starts 3), .int .i64 (ig s1.starts 4), .int .i64 (ig s1.starts 5), .bool (bg s1.failed 0), .bool (bg s1.failed 1), .bool true, .bool (bg s1.failed 3), .bool (bg s1.failed 4), .bool (bg s1.failed 5), .int .i64 s1.budget] 47
              have e : stC (hit s 2) = [.int .i64 s1.turn, .int .i64 (ig s1.starts 0), .int .i64 (ig s1.starts 1), .int .i64 (ig s1.starts 2), .int .i64 (ig s1.starts 3), .int .i64 (ig s1.starts 4), .int .i64 (ig s1.starts 5), .bool (bg s1.failed 0), .bool (bg s1.failed 1), .bool true, .bool (bg s1.failed 3), .bool (bg s1.failed 4), .bool (bg s1.failed 5), .int .i64 s1.budget] := by
                have hl : 2 < s.failed.length := by rw [HF.out.lf, ← HM.out]; omega
                rw [HS1.out]
                unfold hit stC
                simp only [bg_setT hl]
                rw [← HU.out]
                rfl
              rw [e]
              exact hn⟩
            rw [← hw5]
            obtain ⟨x, hx⟩ : ∃ x, x = hit s 2 := ⟨_, rfl⟩
            rw [← hx] at hpk hB5
            obtain ⟨fn2, tmps2, assign2, body2, hy2, hR2⟩ := HY.out _ x w5 (HJ.out _ _ _ hJk (Chg.of_below hb5)) hpk
            unfold stV stC st14 at hy2
            have HB6 := Lib.hid (HBK.out.later hb5)
            have HBB6 := Lib.hid (HBBK.out.later hb5)
            have HX := Lib.hid hx
            clear k0 k1 k2 k3 k4 k5 k6 k7 k8 k9 k10 k11 k12 k13 hw5 hpf hx
            have k0 := (hB5 0 _ rfl).1
            have k1 := (hB5 1 _ rfl).1
            have k2 := (hB5 2 _ rfl).1
            have k3 := (hB5 3 _ rfl).1
            have k4 := (hB5 4 _ rfl).1
            have k5 := (hB5 5 _ rfl).1
            have k6 := (hB5 6 _ rfl).1
            have k7 := (hB5 7 _ rfl).1
            have k8 := (hB5 8 _ rfl).1
            have k9 := (hB5 9 _ rfl).1
            have k10 := (hB5 10 _ rfl).1
            have k11 := (hB5 11 _ rfl).1
            have k12 := (hB5 12 _ rfl).1
            have k13 := (hB5 13 _ rfl).1
            clear hB5
            gi_wp2_with (refine hR2.mono ?_; rintro e W6 ⟨rfl, hJ6, hs6, hk6⟩)
            refine ⟨⟨2 + 1, by omega, by simp, by rw [madeTo_succ, HFK.out]; rw [HX.out] at hJ6; exact hJ6, HB6.out.same (hk6 Bs (.inl rfl)), HBB6.out.same (hk6 Bb (.inr rfl))⟩, ?_⟩
            simp [intOf]; omega
          · have hf1 : bg s1.failed 2 = true := by rw [HS1.out]; exact hfk
            rw [hf1] at k9
            have HFK := Lib.hid hfk
            clear hf1 hpf hfk
            gi_wp2
            refine ⟨⟨2 + 1, by omega, by simp, by rw [madeTo_succ, HFK.out]; exact hJk, HBK.out, HBBK.out⟩, ?_⟩
            simp [intOf]; omega
        ·
          rcases Bool.eq_false_or_eq_true (bg s.failed 3) with hfk | hfk
          rotate_left
          · have hpk := hpf hfk
            have hf1 : bg s1.failed 3 = false := by rw [HS1.out]; exact hfk
            have HFK := Lib.hid hfk
            clear hfk
            rw [hf1] at k10
            clear hf1
            gi_upto_region 8 with fail
            obtain ⟨w5, hw5, hb5, hB5⟩ : ∃ w5, w5 = wr.alloc (.cells #[.int .i64 s1.turn, .int .i64 (ig s1.starts 0), .int .i64 (ig s1.starts 1), .int .i64 (ig s1.starts 2), .int .i64 (ig s1.starts 3), .int .i64 (ig s1.starts 4), .int .i64 (ig s1.starts 5), .bool (bg s1.failed 0), .bool (bg s1.failed 1), .bool (bg s1.failed 2), .bool true, .bool (bg s1.failed 4), .bool (bg s1.failed 5), .int .i64 s1.budget] 47) ∧ Below wr.heap.size wr w5 ∧ BoxAt w5 wr.heap.size (stC (hit s 3)) := ⟨_, rfl, (Below.refl _ _).alloc (Nat.le_refl _) _, by
              have hn := BoxAt.new wr [.int .i64 s1.turn, .int .i64 (ig s1.starts 0), .int .i64 (ig s1.starts 1), .int .i64 (ig s1.starts 2), .int .i64 (ig s1.starts 3), .int .i64 (ig s1.starts 4), .int .i64 (ig s1.starts 5), .bool (bg s1.failed 0), .bool (bg s1.failed 1), .bool (bg s1.failed 2), .bool true, .bool (bg s1.failed 4), .bool (bg s1.failed 5), .int .i64 s1.budget] 47
              have e : stC (hit s 3) = [.int .i64 s1.turn, .int .i64 (ig s1.starts 0), .int .i64 (ig s1.starts 1), .int .i64 (ig s1.starts 2), .int .i64 (ig s1.starts 3), .int .i64 (ig s1.starts 4), .int .i64 (ig s1.starts 5), .bool (bg s1.failed 0), .bool (bg s1.failed 1), .bool (bg s1.failed 2), .bool true, .bool (bg s1.failed 4), .bool (bg s1.failed 5), .int .i64 s1.budget] := by
                have hl : 3 < s.failed.length := by rw [HF.out.lf, ← HM.out]; omega
                rw [HS1.out]
                unfold hit stC
                simp only [bg_setT hl]
                rw [← HU.out]
                rfl
              rw [e]
              exact hn⟩
            rw [← hw5]
            obtain ⟨x, hx⟩ : ∃ x, x = hit s 3 := ⟨_, rfl⟩
            rw [← hx] at hpk hB5
            obtain ⟨fn2, tmps2, assign2, body2, hy2, hR2⟩ := HY.out _ x w5 (HJ.out _ _ _ hJk (Chg.of_below hb5)) hpk
            unfold stV stC st14 at hy2
            have HB6 := Lib.hid (HBK.out.later hb5)
            have HBB6 := Lib.hid (HBBK.out.later hb5)
            have HX := Lib.hid hx
            clear k0 k1 k2 k3 k4 k5 k6 k7 k8 k9 k10 k11 k12 k13 hw5 hpf hx
            have k0 := (hB5 0 _ rfl).1
            have k1 := (hB5 1 _ rfl).1
            have k2 := (hB5 2 _ rfl).1
            have k3 := (hB5 3 _ rfl).1
            have k4 := (hB5 4 _ rfl).1
            have k5 := (hB5 5 _ rfl).1
            have k6 := (hB5 6 _ rfl).1
            have k7 := (hB5 7 _ rfl).1
            have k8 := (hB5 8 _ rfl).1
            have k9 := (hB5 9 _ rfl).1
            have k10 := (hB5 10 _ rfl).1
            have k11 := (hB5 11 _ rfl).1
            have k12 := (hB5 12 _ rfl).1
            have k13 := (hB5 13 _ rfl).1
            clear hB5
            gi_wp2_with (refine hR2.mono ?_; rintro e W6 ⟨rfl, hJ6, hs6, hk6⟩)
            refine ⟨⟨3 + 1, by omega, by simp, by rw [madeTo_succ, HFK.out]; rw [HX.out] at hJ6; exact hJ6, HB6.out.same (hk6 Bs (.inl rfl)), HBB6.out.same (hk6 Bb (.inr rfl))⟩, ?_⟩
            simp [intOf]; omega
          · have hf1 : bg s1.failed 3 = true := by rw [HS1.out]; exact hfk
            rw [hf1] at k10
            have HFK := Lib.hid hfk
            clear hf1 hpf hfk
            gi_wp2
            refine ⟨⟨3 + 1, by omega, by simp, by rw [madeTo_succ, HFK.out]; exact hJk, HBK.out, HBBK.out⟩, ?_⟩
            simp [intOf]; omega
        ·
          rcases Bool.eq_false_or_eq_true (bg s.failed 4) with hfk | hfk
          rotate_left
          · have hpk := hpf hfk
            have hf1 : bg s1.failed 4 = false := by rw [HS1.out]; exact hfk
            have HFK := Lib.hid hfk
            clear hfk
            rw [hf1] at k11
            clear hf1
            gi_upto_region 8 with fail
            obtain ⟨w5, hw5, hb5, hB5⟩ : ∃ w5, w5 = wr.alloc (.cells #[.int .i64 s1.turn, .int .i64 (ig s1.starts 0), .int .i64 (ig s1.starts 1), .int .i64 (ig s1.starts 2), .int .i64 (ig s1.starts 3), .int .i64 (ig s1.starts 4), .int .i64 (ig s1.starts 5), .bool (bg s1.failed 0), .bool (bg s1.failed 1), .bool (bg s1.failed 2), .bool (bg s1.failed 3), .bool true, .bool (bg s1.failed 5), .int .i64 s1.budget] 47) ∧ Below wr.heap.size wr w5 ∧ BoxAt w5 wr.heap.size (stC (hit s 4)) := ⟨_, rfl, (Below.refl _ _).alloc (Nat.le_refl _) _, by
              have hn := BoxAt.new wr [.int .i64 s1.turn, .int .i64 (ig s1.starts 0), .int .i64 (ig s1.starts 1), .int .i64 (ig s1.starts 2), .int .i64 (ig s1.starts 3), .int .i64 (ig s1.starts 4), .int .i64 (ig s1.starts 5), .bool (bg s1.failed 0), .bool (bg s1.failed 1), .bool (bg s1.failed 2), .bool (bg s1.failed 3), .bool true, .bool (bg s1.failed 5), .int .i64 s1.budget] 47
              have e : stC (hit s 4) = [.int .i64 s1.turn, .int .i64 (ig s1.starts 0), .int .i64 (ig s1.starts 1), .int .i64 (ig s1.starts 2), .int .i64 (ig s1.starts 3), .int .i64 (ig s1.starts 4), .int .i64 (ig s1.starts 5), .bool (bg s1.failed 0), .bool (bg s1.failed 1), .bool (bg s1.failed 2), .bool (bg s1.failed 3), .bool true, .bool (bg s1.failed 5), .int .i64 s1.budget] := by
                have hl : 4 < s.failed.length := by rw [HF.out.lf, ← HM.out]; omega
                rw [HS1.out]
                unfold hit stC
                simp only [bg_setT hl]
                rw [← HU.out]
                rfl
              rw [e]
              exact hn⟩
            rw [← hw5]
            obtain ⟨x, hx⟩ : ∃ x, x = hit s 4 := ⟨_, rfl⟩
            rw [← hx] at hpk hB5
            obtain ⟨fn2, tmps2, assign2, body2, hy2, hR2⟩ := HY.out _ x w5 (HJ.out _ _ _ hJk (Chg.of_below hb5)) hpk
            unfold stV stC st14 at hy2
            have HB6 := Lib.hid (HBK.out.later hb5)
            have HBB6 := Lib.hid (HBBK.out.later hb5)
            have HX := Lib.hid hx
            clear k0 k1 k2 k3 k4 k5 k6 k7 k8 k9 k10 k11 k12 k13 hw5 hpf hx
            have k0 := (hB5 0 _ rfl).1
            have k1 := (hB5 1 _ rfl).1
            have k2 := (hB5 2 _ rfl).1
            have k3 := (hB5 3 _ rfl).1
            have k4 := (hB5 4 _ rfl).1
            have k5 := (hB5 5 _ rfl).1
            have k6 := (hB5 6 _ rfl).1
            have k7 := (hB5 7 _ rfl).1
            have k8 := (hB5 8 _ rfl).1
            have k9 := (hB5 9 _ rfl).1
            have k10 := (hB5 10 _ rfl).1
            have k11 := (hB5 11 _ rfl).1
            have k12 := (hB5 12 _ rfl).1
            have k13 := (hB5 13 _ rfl).1
            clear hB5
            gi_wp2_with (refine hR2.mono ?_; rintro e W6 ⟨rfl, hJ6, hs6, hk6⟩)
            refine ⟨⟨4 + 1, by omega, by simp, by rw [madeTo_succ, HFK.out]; rw [HX.out] at hJ6; exact hJ6, HB6.out.same (hk6 Bs (.inl rfl)), HBB6.out.same (hk6 Bb (.inr rfl))⟩, ?_⟩
            simp [intOf]; omega
          · have hf1 : bg s1.failed 4 = true := by rw [HS1.out]; exact hfk
            rw [hf1] at k11
            have HFK := Lib.hid hfk
            clear hf1 hpf hfk
            gi_wp2
            refine ⟨⟨4 + 1, by omega, by simp, by rw [madeTo_succ, HFK.out]; exact hJk, HBK.out, HBBK.out⟩, ?_⟩
            simp [intOf]; omega
        ·
          rcases Bool.eq_false_or_eq_true (bg s.failed 5) with hfk | hfk
          rotate_left
          · have hpk := hpf hfk
            have hf1 : bg s1.failed 5 = false := by rw [HS1.out]; exact hfk
            have HFK := Lib.hid hfk
            clear hfk
            rw [hf1] at k12
            clear hf1
            gi_upto_region 8 with fail
            obtain ⟨w5, hw5, hb5, hB5⟩ : ∃ w5, w5 = wr.alloc (.cells #[.int .i64 s1.turn, .int .i64 (ig s1.starts 0), .int .i64 (ig s1.starts 1), .int .i64 (ig s1.starts 2), .int .i64 (ig s1.starts 3), .int .i64 (ig s1.starts 4), .int .i64 (ig s1.starts 5), .bool (bg s1.failed 0), .bool (bg s1.failed 1), .bool (bg s1.failed 2), .bool (bg s1.failed 3), .bool (bg s1.failed 4), .bool true, .int .i64 s1.budget] 47) ∧ Below wr.heap.size wr w5 ∧ BoxAt w5 wr.heap.size (stC (hit s 5)) := ⟨_, rfl, (Below.refl _ _).alloc (Nat.le_refl _) _, by
              have hn := BoxAt.new wr [.int .i64 s1.turn, .int .i64 (ig s1.starts 0), .int .i64 (ig s1.starts 1), .int .i64 (ig s1.starts 2), .int .i64 (ig s1.starts 3), .int .i64 (ig s1.starts 4), .int .i64 (ig s1.starts 5), .bool (bg s1.failed 0), .bool (bg s1.failed 1), .bool (bg s1.failed 2), .bool (bg s1.failed 3), .bool (bg s1.failed 4), .bool true, .int .i64 s1.budget] 47
              have e : stC (hit s 5) = [.int .i64 s1.turn, .int .i64 (ig s1.starts 0), .int .i64 (ig s1.starts 1), .int .i64 (ig s1.starts 2), .int .i64 (ig s1.starts 3), .int .i64 (ig s1.starts 4), .int .i64 (ig s1.starts 5), .bool (bg s1.failed 0), .bool (bg s1.failed 1), .bool (bg s1.failed 2), .bool (bg s1.failed 3), .bool (bg s1.failed 4), .bool true, .int .i64 s1.budget] := by
                have hl : 5 < s.failed.length := by rw [HF.out.lf, ← HM.out]; omega
                rw [HS1.out]
                unfold hit stC
                simp only [bg_setT hl]
                rw [← HU.out]
                rfl
              rw [e]
              exact hn⟩
            rw [← hw5]
            obtain ⟨x, hx⟩ : ∃ x, x = hit s 5 := ⟨_, rfl⟩
            rw [← hx] at hpk hB5
            obtain ⟨fn2, tmps2, assign2, body2, hy2, hR2⟩ := HY.out _ x w5 (HJ.out _ _ _ hJk (Chg.of_below hb5)) hpk
            unfold stV stC st14 at hy2
            have HB6 := Lib.hid (HBK.out.later hb5)
            have HBB6 := Lib.hid (HBBK.out.later hb5)
            have HX := Lib.hid hx
            clear k0 k1 k2 k3 k4 k5 k6 k7 k8 k9 k10 k11 k12 k13 hw5 hpf hx
            have k0 := (hB5 0 _ rfl).1
            have k1 := (hB5 1 _ rfl).1
            have k2 := (hB5 2 _ rfl).1
            have k3 := (hB5 3 _ rfl).1
            have k4 := (hB5 4 _ rfl).1
            have k5 := (hB5 5 _ rfl).1
            have k6 := (hB5 6 _ rfl).1
            have k7 := (hB5 7 _ rfl).1
            have k8 := (hB5 8 _ rfl).1
            have k9 := (hB5 9 _ rfl).1
            have k10 := (hB5 10 _ rfl).1
            have k11 := (hB5 11 _ rfl).1
            have k12 := (hB5 12 _ rfl).1
            have k13 := (hB5 13 _ rfl).1
            clear hB5
            gi_wp2_with (refine hR2.mono ?_; rintro e W6 ⟨rfl, hJ6, hs6, hk6⟩)
            refine ⟨⟨5 + 1, by omega, by simp, by rw [madeTo_succ, HFK.out]; rw [HX.out] at hJ6; exact hJ6, HB6.out.same (hk6 Bs (.inl rfl)), HBB6.out.same (hk6 Bb (.inr rfl))⟩, ?_⟩
            simp [intOf]; omega
          · have hf1 : bg s1.failed 5 = true := by rw [HS1.out]; exact hfk
            rw [hf1] at k12
            have HFK := Lib.hid hfk
            clear hf1 hpf hfk
            gi_wp2
            refine ⟨⟨5 + 1, by omega, by simp, by rw [madeTo_succ, HFK.out]; exact hJk, HBK.out, HBBK.out⟩, ?_⟩
            simp [intOf]; omega
      · obtain rfl : k = m := by omega
        gi_wp2
        go_end0
        refine ⟨⟨_, rfl⟩, ?_⟩
        rw [← madeTo_all HU0.out, HF.out.lf, ← HM.out]
        exact hJk
end Go.Proofs.Ytgccankekflchaa

