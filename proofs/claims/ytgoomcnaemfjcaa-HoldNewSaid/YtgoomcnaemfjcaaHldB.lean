

/- Contracts: Out of the reference, and of the package. -/
import Derived.Test.YtgoomcnaemfjcaaHldA
namespace Go.Proofs.Ytgoomcnaemfjcaa
open Go.RowKit

abbrev hdV (h : Hd) (ma : Option Addr) (mc : Nat) (ba : Option Addr) (bc : Nat) : Value := .agg #[.string h.id, .string h.veh, .slice ma h.mem.length mc, .slice ba h.back.length bc]
structure HdAt (w : World) (h : Hd) (ma ba : Option Addr) : Prop where
  m : Ints w ma h.mem
  b : Ints w ba h.back
  ml : h.mem.length < 9223372036854775808
  bl : h.back.length < 9223372036854775808
theorem HdAt.later {w w1 : World} {h : Hd} {ma ba : Option Addr} (k : HdAt w h ma ba) (hb : Below w.heap.size w w1) : HdAt w1 h ma ba := ⟨k.m.later hb, k.b.later hb, k.ml, k.bl⟩
theorem out_no {h : Hd} (k : ∀ r, r < h.mem.length → decide (ig h.mem r ∈ h.back) = true) : outB h = false := outB_no fun ⟨m, hm, hb⟩ => by
  obtain ⟨j, hj, rfl⟩ := mem_ig.1 hm
  exact hb (of_decide_eq_true (k j hj))
theorem out_yes {h : Hd} {i : Nat} (hi : i < h.mem.length) (k : decide (ig h.mem i ∈ h.back) = false) : outB h = true := outB_yes ⟨ig h.mem i, ig_mem hi, of_decide_eq_false k⟩
set_option maxRecDepth 100000 in
set_option maxHeartbeats 1000000 in
theorem rout_any (h : Hd) (ma ba : Option Addr) (mc bc : Nat) (w : World) (hH : HdAt w h ma ba) :
    Calls Try.prog 14 #[hdV h ma mc ba bc] w (RetB (.bool (outB h)) w) := by
  have HH := Lib.hid hH
  obtain ⟨n, hn⟩ : ∃ n, n = h.mem.length := ⟨_, rfl⟩
  have hn64 : n < 9223372036854775808 := by rw [hn]; exact hH.ml
  have HN := Lib.hid hn
  have HIN := Lib.hid (show ∀ wy x, Ints wy ba h.back → Calls Try.prog 18 #[.slice ba h.back.length bc, .int .i64 x] wy (RetS (.bool (decide (x ∈ h.back))) wy) from fun wy x hI => in_any h.back ba bc x wy hI hH.bl)
  unfold hdV
  rw [← hn]
  clear hn hH
  go_enter Try.func14, Try.ntmps14
  go_wp2_with fail
  obtain ⟨wx, hwx⟩ : ∃ wx, wx = w.alloc (Obj.cells #[.string h.id, .string h.veh, .slice ma n mc, .slice ba h.back.length bc] 31) := ⟨_, rfl⟩
  rw [← hwx]
  have hbx : Below w.heap.size w wx := by rw [hwx]; exact (by repeat (first | exact Below.refl _ _ | assumption | refine Below.drew ?_ | refine below_drewN ?_ _ | refine Below.alloc ?_ (by first | omega | (simp; done) | (simp; omega)) _ | refine Below.setCell ?_ (by first | omega | (simp; done) | (simp; omega)) _ | refine Below.trans ?_ (Below.mono (by assumption) (by first | omega | (simp; done) | (simp; omega)))))
  have b2 : wx.cell? ⟨w.heap.size, 2, none⟩ = some (.slice ma n mc) := by rw [hwx]; simp [go_sem]
  have b3 : wx.cell? ⟨w.heap.size, 3, none⟩ = some (.slice ba h.back.length bc) := by rw [hwx]; simp [go_sem]
  have HX := Lib.hid (HH.out.later hbx)
  have HBX := Lib.hid hbx
  clear hwx hbx
  go_loopg [3] (n + 1) (fun k v wr => ∃ i : Nat, i ≤ n ∧ k + i = n + 1 ∧ v = .int .i64 i ∧ Below wx.heap.size wx wr ∧ ∀ r, r < i → decide (ig h.mem r ∈ h.back) = true)
  case atStart => exact ⟨0, by omega, by omega, rfl, Below.refl _ _, fun r hr => absurd hr (by omega)⟩
  case round =>
    obtain ⟨i, hi, hki, rfl, hbr, hall⟩ := hrel
    have HA := Lib.hid hall
    have HBR := Lib.hid hbr
    have c2 := cell_later hbr b2
    have c3 := cell_later hbr b3
    have hxr := HX.out.later hbr
    have HXR := Lib.hid hxr
    clear hall hbr
    by_cases hlt : i < n
    · obtain ⟨b1, o1, rfl, f1⟩ := hxr.m.fam (by have := HN.out; omega)
      have c1 := f1 i (by have := HN.out; omega)
      clear f1
      obtain ⟨u, hu⟩ : ∃ u, u = ig h.mem i := ⟨_, rfl⟩
      rw [← hu] at c1
      have HU := Lib.hid hu
      clear hu
      have n1 : (i : Int) < (n : Int) := by omega
      have n0 : (0 : Int) ≤ (i : Int) := by omega
      have hS : ∀ wy : World, Below wr.heap.size wr wy → (wy.cell? ⟨b1, o1 + i, none⟩ = some (.int .i64 u) ∧ wy.cell? ⟨w.heap.size, 2, none⟩ = some (.slice (some ⟨b1, o1, none⟩) n mc) ∧ wy.cell? ⟨w.heap.size, 3, none⟩ = some (.slice ba h.back.length bc)) ∧ Ints wy ba h.back := fun wy hy => ⟨⟨cell_later hy c1, cell_later hy c2, cell_later hy c3⟩, hxr.b.later hy⟩
      go_wp2_with fail
      refine wp_flow_s [] [] (by kernel_rfl) (by kernel_rfl) (by kernel_rfl) ?_
      repeat (first | ((with_reducible refine Flow.pure hS StayG.nil (v := ?_) ?_ ?_ ?_ ?_); rotate_left 1; (focus kernel_rfl); (focus (intro _; rfl)); (focus (intro β wx hSw; (try dsimp only at hSw); go_simp; (try with_reducible rfl); done)); (try simp only [Act.put, List.setIfInBounds_toArray, List.set_cons_zero, List.set_cons_succ, Nat.reduceAdd])))
      ((with_reducible refine Flow.call hS StayG.nil (v := ?_) ?_ ?_ ?_ ?_); rotate_left 1; (focus kernel_rfl); (focus (intro _; rfl)); (focus (intro β L wx hI hat hSw K' hK; (try dsimp only at hSw); go_simp; go_at_call 18; refine Calls.mono (HIN.out _ _ hSw.2) ?_; rintro e w' ⟨rfl, rfl⟩; exact hK.out _ (Below.refl _ _))); (try simp only [Act.put, List.setIfInBounds_toArray, List.set_cons_zero, List.set_cons_succ, Nat.reduceAdd]))
      repeat (first | ((with_reducible refine Flow.pure hS StayG.nil (v := ?_) ?_ ?_ ?_ ?_); rotate_left 1; (focus kernel_rfl); (focus (intro _; rfl)); (focus (intro β wx hSw; (try dsimp only at hSw); go_simp; (try with_reducible rfl); done)); (try simp only [Act.put, List.setIfInBounds_toArray, List.set_cons_zero, List.set_cons_succ, Nat.reduceAdd])))
      ((with_reducible refine Flow.stop ?_); dsimp only; intro β w8 hI8)
      have HB8 := Lib.hid (HBR.out.trans (hI8.below.mono HBR.out.size))
      have HBW := Lib.hid (HBX.out.trans (HB8.out.mono HBX.out.size))
      clear hS hI8 c1 c2 c3 hxr
      cases hd : decide (u ∈ h.back)
      · have HD := Lib.hid (show outB h = true from out_yes (i := i) (by rw [← HN.out]; exact hlt) (by rw [← HU.out]; exact hd))
        clear hd
        go_wp2_with fail
        go_ret
        exact retB (vbool HD.out.symm) HBW.out
      · have HD := Lib.hid hd
        clear hd
        go_wp2_with fail
        go_roundg (n - i)
        case measure => omega
        case rel => exact ⟨i + 1, by omega, by omega, by go_num, HB8.out, fun r hr => by
          rcases Nat.lt_succ_iff_lt_or_eq.1 hr with h | h
          · exact HA.out r h
          · subst h; rw [← HU.out]; exact HD.out⟩
    · obtain rfl : i = n := by omega
      have HD := Lib.hid (show outB h = false from out_no (by rw [← HN.out]; exact HA.out))
      have HBW := Lib.hid (HBX.out.trans (HBR.out.mono HBX.out.size))
      go_wp2_with fail
      go_ret
      exact retB (vbool HD.out.symm) HBW.out
/-! ### Out of the package: a closure that looks into the hold -/
set_option maxRecDepth 100000 in
theorem outc_any (back : List Int) (ba : Option Addr) (bc : Nat) (B : Nat) (x : Int) (w : World) (hB : w.cell? ⟨B, 3, none⟩ = some (.slice ba back.length bc)) (hI : Ints w ba back) (hl : back.length < 9223372036854775808) :
    Calls Try.prog 26 #[.int .i64 x, .pointer (some ⟨B, 0, none⟩)] w (RetS (.bool (!decide (x ∈ back))) w) := by
  have HC := Lib.hid (contains_any back ba bc x w hI hl)
  clear hI
  go_enter Try.func26, Try.ntmps26
  go_wp2_with fail
  refine Calls.mono HC.out ?_
  rintro e w1 ⟨rfl, rfl⟩
  go_wp2_with fail
  go_ret
  exact retS rfl
/-- the first index of a member that has not given back, or -1 -/
noncomputable def idxO (l back : List Int) : Int := match l.findIdx? (fun y => !decide (y ∈ back)) with | some i => (i : Int) | none => -1
theorem idxO_at {l back : List Int} {i : Nat} (hi : i < l.length) (h : decide (ig l i ∈ back) = false) (hb : ∀ r, r < i → decide (ig l r ∈ back) = true) : idxO l back = i := by
  have : l.findIdx? (fun y => !decide (y ∈ back)) = some i := by
    rw [List.findIdx?_eq_some_iff_getElem]
    exact ⟨hi, by rw [← ig_lt hi, h]; rfl, fun j hj => by
      have := hb j hj
      rw [ig_lt (by omega)] at this
      rw [this]
      decide⟩
  unfold idxO
  rw [this]
theorem idxO_no {l back : List Int} (hb : ∀ r, r < l.length → decide (ig l r ∈ back) = true) : idxO l back = -1 := by
  have : l.findIdx? (fun y => !decide (y ∈ back)) = none := by
    rw [List.findIdx?_eq_none_iff]
    intro y hy
    obtain ⟨j, hj, rfl⟩ := mem_ig.1 hy
    rw [hb j hj]
    rfl
  unfold idxO
  rw [this]
theorem idxO_pos {h : Hd} : decide (0 ≤ idxO h.mem h.back) = outB h := by
  by_cases k : outH h
  · rw [outB_yes k]
    obtain ⟨m, hm, hb⟩ := k
    have : ∃ i, h.mem.findIdx? (fun y => !decide (y ∈ h.back)) = some i := by
      cases e : h.mem.findIdx? (fun y => !decide (y ∈ h.back)) with
      | some i => exact ⟨i, rfl⟩
      | none =>
        rw [List.findIdx?_eq_none_iff] at e
        have := e m hm
        simp [hb] at this
    obtain ⟨i, hi⟩ := this
    unfold idxO
    rw [hi]
    simp
  · rw [outB_no k]
    rw [idxO_no (fun r hr => decide_eq_true (Classical.byContradiction fun e => k ⟨_, ig_mem hr, e⟩))]
    rfl
set_option maxRecDepth 100000 in
theorem indexf_any (l back : List Int) (ba : Option Addr) (bc B : Nat) (a : Option Addr) (c : Nat) (w : World) (hI : Ints w a l) (hl : l.length < 9223372036854775808) (hB : w.cell? ⟨B, 3, none⟩ = some (.slice ba back.length bc)) (hJ : Ints w ba back) (hm : back.length < 9223372036854775808) :
    Calls Try.prog 32 #[.slice a l.length c, .func (.func 26) #[] #[.pointer (some ⟨B, 0, none⟩)]] w (RetS (.int .i64 (idxO l back)) w) := by
  have HC := Lib.hid (fun x => outc_any back ba bc B x w hB hJ hm)
  clear hB hJ hm
  go_enter Try.func32, Try.ntmps32
  go_wp2_with fail
  go_loopg [8] (l.length + 1) (fun k v wr => ∃ i : Nat, i ≤ l.length ∧ k + i = l.length + 1 ∧ v = .int .i64 i ∧ wr = w ∧ ∀ r, r < i → decide (ig l r ∈ back) = true)
  case atStart => exact ⟨0, by omega, by omega, rfl, rfl, fun r hr => absurd hr (by omega)⟩
  case round =>
    obtain ⟨i, hi, hki, rfl, rfl, hall⟩ := hrel
    have HA := Lib.hid hall
    clear hall
    by_cases hlt : i < l.length
    · obtain ⟨b, off, rfl, fc⟩ := hI.fam (by omega)
      have hc := fc i hlt
      clear fc
      obtain ⟨m, hm⟩ : ∃ m, m = ig l i := ⟨_, rfl⟩
      rw [← hm] at hc
      have HM := Lib.hid hm
      clear hm
      have n1 : (i : Int) < (l.length : Int) := by omega
      have n0 : (0 : Int) ≤ (i : Int) := by omega
      cases hd : decide (m ∈ back)
      · have HD := Lib.hid (idxO_at (l := l) (back := back) hlt (by rw [← HM.out]; exact hd) HA.out)
        have HC1 := HC.out m
        rw [hd] at HC1
        have HC2 := Lib.hid HC1
        clear hd HC1
        go_wp2_with fail
        refine Calls.mono HC2.out ?_
        rintro e w1 ⟨rfl, rfl⟩
        go_wp2_with fail
        go_ret
        exact retS (vint HD.out.symm)
      · have HX := Lib.hid hd
        have HC1 := HC.out m
        rw [hd] at HC1
        have HC2 := Lib.hid HC1
        clear hd HC1
        go_wp2_with fail
        refine Calls.mono HC2.out ?_
        rintro e w1 ⟨rfl, rfl⟩
        go_wp2_with fail
        go_roundg (l.length - i)
        case measure => omega
        case rel => exact ⟨i + 1, by omega, by omega, by go_num, rfl, fun r hr => by
          rcases Nat.lt_succ_iff_lt_or_eq.1 hr with h | h
          · exact HA.out r h
          · subst h; rw [← HM.out]; exact HX.out⟩
    · obtain rfl : i = l.length := by omega
      have HD := Lib.hid (idxO_no HA.out)
      go_wp2_with fail
      go_ret
      exact retS (vint HD.out.symm)
set_option maxRecDepth 100000 in
theorem containsf_any (h : Hd) (ma ba : Option Addr) (mc bc B : Nat) (w : World) (hH : HdAt w h ma ba) (hB : w.cell? ⟨B, 3, none⟩ = some (.slice ba h.back.length bc)) :
    Calls Try.prog 25 #[.slice ma h.mem.length mc, .func (.func 26) #[] #[.pointer (some ⟨B, 0, none⟩)]] w (RetS (.bool (outB h)) w) := by
  have HX := Lib.hid (indexf_any h.mem h.back ba bc B ma mc w hH.m hH.ml hB hH.b hH.bl)
  have HP := Lib.hid (idxO_pos (h := h))
  obtain ⟨k, hk⟩ : ∃ k, k = idxO h.mem h.back := ⟨_, rfl⟩
  rw [← hk] at HX HP
  clear hk hB
  go_enter Try.func25, Try.ntmps25
  go_wp2_with fail
  refine Calls.mono HX.out ?_
  rintro e w1 ⟨rfl, rfl⟩
  go_wp2_with fail
  go_ret
  exact retS (vbool (by have := HP.out; simpa using this))
set_option maxRecDepth 100000 in
theorem out_any (h : Hd) (ma ba : Option Addr) (mc bc : Nat) (w : World) (hH : HdAt w h ma ba) :
    Calls Try.prog 13 #[hdV h ma mc ba bc] w (RetB (.bool (outB h)) w) := by
  have hmf : ∀ (fn : Fn) (first cap : Array Value) (w : World), (Instr.makeFunc fn first cap).run Try.prog w = .ok (.func fn first cap) w := fun _ _ _ _ => rfl
  have HH := Lib.hid hH
  unfold hdV
  clear hH
  go_enter Try.func13, Try.ntmps13
  go_wp2_with fail
  obtain ⟨wx, hwx⟩ : ∃ wx, wx = w.alloc (Obj.cells #[.string h.id, .string h.veh, .slice ma h.mem.length mc, .slice ba h.back.length bc] 31) := ⟨_, rfl⟩
  rw [← hwx]
  have hbx : Below w.heap.size w wx := by rw [hwx]; exact (by repeat (first | exact Below.refl _ _ | assumption | refine Below.drew ?_ | refine below_drewN ?_ _ | refine Below.alloc ?_ (by first | omega | (simp; done) | (simp; omega)) _ | refine Below.setCell ?_ (by first | omega | (simp; done) | (simp; omega)) _ | refine Below.trans ?_ (Below.mono (by assumption) (by first | omega | (simp; done) | (simp; omega)))))
  have b3 : wx.cell? ⟨w.heap.size, 3, none⟩ = some (.slice ba h.back.length bc) := by rw [hwx]; simp [go_sem]
  have HC := Lib.hid (containsf_any h ma ba mc bc w.heap.size wx (HH.out.later hbx) b3)
  have HBX := Lib.hid hbx
  refine Calls.mono HC.out ?_
  rintro e w1 ⟨rfl, rfl⟩
  clear hwx hbx b3
  go_wp2_with fail
  go_ret
  exact retB rfl HBX.out
end Go.Proofs.Ytgoomcnaemfjcaa
