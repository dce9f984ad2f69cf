

/- The reference of layer 40: Small; the statements' few; the chapter's examples. -/
import Derived.Test.YtlkknoooeldomaaGamRa
namespace Go.Proofs.Ytlkknoooeldomaa
open Go.RowKit

@[local go_sem high] theorem run_maxH (P : Program) (w : World) (ts : Array TypeId) (t : TypeId) (k k' : IntKind) (x y : Int) : (Builtin.max_ ts t #[.int k x, .int k' y]).run P w = .ok (.int k (max x y)) w := by
  simp [Builtin.max_, Builtin.max2, if_max]
def smB (g : Gm) : Bool := decide (szG g g.starts.length ≤ 200000)
theorem smB_iff {g : Gm} : smB g = true ↔ SmG g := decide_eq_true_iff
set_option maxRecDepth 100000 in
set_option maxHeartbeats 4000000 in
theorem small_any (g : Gm) (sa da : Option Addr) (sc dc : Nat) (w : World) (hG : GmAt w g sa da) (hv : VG g) : Calls Try.prog 26 #[gmV g sa sc da dc] w (RetB (.bool (smB g)) w) := by
  obtain ⟨n, hn⟩ : ∃ n, n = g.starts.length := ⟨_, rfl⟩
  obtain ⟨d, hd⟩ : ∃ n, n = g.deps.length := ⟨_, rfl⟩
  obtain ⟨bu, hbu⟩ : ∃ n, n = g.budget := ⟨_, rfl⟩
  have HV := Lib.hid hv
  have HN := Lib.hid hn
  have HG := Lib.hid hG
  have HZ := Lib.hid (show szG g 0 = max 1 (d : Int) * (bu + 1) from by rw [hd, hbu]; rfl)
  have hb : 0 ≤ bu ∧ bu ≤ 3 := by rw [hbu]; exact ⟨hv.2.2.1, hv.2.2.2.1⟩
  have hd12 : d ≤ 12 := by rw [hd]; exact hv.2.1
  have hn6 : n ≤ 6 := by rw [hn]; exact hv.1
  have HSZ := Lib.hid (fun i (hi : i ≤ n) => szG_in hv i (by rw [← hn]; exact hi))
  unfold gmV
  rw [← hn, ← hd, ← hbu]
  have w1 : IntKind.i64.wrap (bu + 1) = bu + 1 := IntWalk.i64_in _ (by omega)
  have w2 : IntKind.i64.wrap (max 1 (d : Int) * (bu + 1)) = max 1 (d : Int) * (bu + 1) := by
    have h := HSZ.out 0 (by omega)
    rw [HZ.out] at h
    exact IntWalk.i64_in _ (by omega)
  clear hv hG hn hd hbu
  go_enter Try.func26, Try.ntmps26
  go_upto_region 1 with fail
  refine wp_named ?_
  intro wx hwx
  obtain ⟨hbx, _, hx, _⟩ := alloc1 w [.slice sa n sc, .slice da d dc, .int .i64 bu] 25 wx hwx
  have HBX := Lib.hid hbx
  have c0 := (hx 0 _ rfl).1
  have c1 := (hx 1 _ rfl).1
  have c2 := (hx 2 _ rfl).1
  have HGX := Lib.hid (HG.out.s.later hbx)
  clear hwx hbx hx
  go_wp2_with fail
  obtain ⟨z, hz⟩ : ∃ z, z = max 1 (d : Int) * (bu + 1) := ⟨_, rfl⟩
  rw [← hz]
  have HZ2 := Lib.hid (HZ.out.trans hz.symm)
  clear hz w2
  go_loopg [3, 4] (n + 1) (fun k v3 v4 wr => ∃ i : Nat, i ≤ n ∧ k + i = n + 1 ∧ v4 = .int .i64 i ∧ v3 = .int .i64 (szG g i) ∧ wr = wx)
  case atStart => exact ⟨0, by omega, by omega, rfl, by rw [HZ2.out], rfl⟩
  case round =>
    obtain ⟨i, hi, hki, rfl, rfl, rfl⟩ := hrel
    obtain ⟨y, hy⟩ : ∃ y, y = szG g i := ⟨_, rfl⟩
    rw [← hy]
    have HY := Lib.hid hy
    clear hy
    by_cases hlt : i < n
    · obtain ⟨pb, po, rfl, fp⟩ := HGX.out.fam (by have := HN.out; omega)
      have hc := fp i (by have := HN.out; omega)
      have hs := HV.out.2.2.2.2.1 i (by rw [← HN.out]; exact hlt)
      obtain ⟨v, hv⟩ : ∃ v, v = ig g.starts i := ⟨_, rfl⟩
      rw [← hv] at hc hs
      have HNX := Lib.hid (show szG g (i + 1) = y * (2 * (v + 1)) from by rw [HY.out, hv]; rfl)
      have hin := HSZ.out (i + 1) (by omega)
      have hp := pow26 (i := i + 1) (by omega)
      rw [HNX.out] at hin
      have w3 : IntKind.i64.wrap (v + 1) = v + 1 := IntWalk.i64_in _ (by omega)
      have w4 : IntKind.i64.wrap (2 * (v + 1)) = 2 * (v + 1) := IntWalk.i64_in _ (by omega)
      have w5 : IntKind.i64.wrap (y * (2 * (v + 1))) = y * (2 * (v + 1)) := IntWalk.i64_in _ (by omega)
      have z1 : (i : Int) < (n : Int) := by omega
      have z0 : (0 : Int) ≤ (i : Int) := by omega
      clear fp hv hs hin hp
      go_wp2_with fail
      go_roundg (n - i)
      case measure => omega
      case rel => exact ⟨i + 1, by omega, by omega, by go_num, by rw [HNX.out], rfl⟩
    · obtain rfl : i = n := by omega
      have HE := Lib.hid (show decide (y ≤ 200000) = smB g from by unfold smB; rw [HY.out, HN.out])
      go_wp2_with fail
      go_ret
      exact retB (vbool HE.out) HBX.out
noncomputable def fewB (g : Gm) : Bool := @decide (VG g ∧ SmG g ∧ g.deps.length ≤ 6 ∧ g.starts.length ≤ 4) (Classical.propDecidable _)
theorem fewB_true {g : Gm} (h : VG g ∧ SmG g ∧ g.deps.length ≤ 6 ∧ g.starts.length ≤ 4) : fewB g = true := by unfold fewB; exact @decide_eq_true _ (Classical.propDecidable _) h
theorem fewB_false {g : Gm} (h : ¬ (VG g ∧ SmG g ∧ g.deps.length ≤ 6 ∧ g.starts.length ≤ 4)) : fewB g = false := by unfold fewB; exact @decide_eq_false _ (Classical.propDecidable _) h
set_option maxRecDepth 100000 in
set_option maxHeartbeats 4000000 in
theorem few_any (g : Gm) (sa da : Option Addr) (sc dc : Nat) (w : World) (hG : GmAt w g sa da) (hF : GmBig g) : Calls Try.prog 18 #[gmV g sa sc da dc] w (RetB (.bool (fewB g)) w) := by
  have HR := Lib.hid (fun (wy : World) (hb : Below w.heap.size w wy) => rvalidG_any g sa da sc dc wy (hG.later hb) hF)
  have HG := Lib.hid hG
  clear hG hF
  go_enter Try.func18, Try.ntmps18
  go_wp2_with fail
  refine calls_named ?_
  intro wx hwx
  obtain ⟨hbx, _, hx, _⟩ := alloc1 w [.slice sa g.starts.length sc, .slice da g.deps.length dc, .int .i64 g.budget] 25 wx hwx
  have HX := Lib.hid hx
  have HBX := Lib.hid hbx
  clear hwx hx
  refine Calls.mono (HR.out wx hbx) ?_
  clear hbx
  rintro e w1 ⟨rfl, hb1⟩
  have hw1 := HBX.out.trans (hb1.mono HBX.out.size)
  have HW1 := Lib.hid hw1
  have hx1 := HX.out.later hb1
  have c0 := (hx1 0 _ rfl).1
  have c1 := (hx1 1 _ rfl).1
  have c2 := (hx1 2 _ rfl).1
  have HX1 := Lib.hid hx1
  clear hb1 hw1 hx1
  by_cases hv : VG g
  · have e := vgB_true hv
    rw [e]
    have HSM := Lib.hid (small_any g sa da sc dc w1 (HG.out.later HW1.out) hv)
    have HV := Lib.hid hv
    clear e hv
    go_wp2_with fail
    refine Calls.mono HSM.out ?_
    rintro e w2 ⟨rfl, hb2⟩
    have hx2 := HX1.out.later hb2
    have d0 := (hx2 0 _ rfl).1
    have d1 := (hx2 1 _ rfl).1
    have HW2 := Lib.hid (HW1.out.trans (hb2.mono HW1.out.size))
    clear c0 c1 c2 hb2 hx2
    cases hs : smB g
    · have HE := Lib.hid (fewB_false (g := g) fun h => by have := smB_iff.2 h.2.1; rw [hs] at this; cases this)
      clear hs
      go_wp2_with fail
      go_ret
      exact retB (vbool HE.out.symm) HW2.out
    · have HS := Lib.hid (smB_iff.1 hs)
      clear hs
      by_cases h6 : g.deps.length ≤ 6
      · have i6 : decide ((g.deps.length : Int) ≤ 6) = true := by simp; omega
        by_cases h4 : g.starts.length ≤ 4
        · have i4 : decide ((g.starts.length : Int) ≤ 4) = true := by simp; omega
          have HE := Lib.hid (fewB_true ⟨HV.out, HS.out, h6, h4⟩)
          clear h6 h4
          go_wp2_with fail
          go_ret
          exact retB (vbool HE.out.symm) HW2.out
        · have i4 : decide ((g.starts.length : Int) ≤ 4) = false := by simp; omega
          have HE := Lib.hid (fewB_false (g := g) fun h => h4 h.2.2.2)
          clear h6 h4
          go_wp2_with fail
          go_ret
          exact retB (vbool HE.out.symm) HW2.out
      · have i6 : decide ((g.deps.length : Int) ≤ 6) = false := by simp; omega
        have HE := Lib.hid (fewB_false (g := g) fun h => h6 h.2.2.1)
        clear h6
        go_wp2_with fail
        go_ret
        exact retB (vbool HE.out.symm) HW2.out
  · have e := vgB_false hv
    rw [e]
    have HE := Lib.hid (fewB_false (g := g) fun h => hv h.1)
    clear e hv
    go_wp2_with fail
    go_ret
    exact retB (vbool HE.out.symm) HW1.out
end Go.Proofs.Ytlkknoooeldomaa

