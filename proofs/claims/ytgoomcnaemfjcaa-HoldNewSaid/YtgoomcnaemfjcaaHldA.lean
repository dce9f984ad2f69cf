

/- Contracts: In, ints, slices.Index, slices.Contains. -/
import Derived.Test.YtgoomcnaemfjcaaHldP
import Derived.Test.YtgoomcnaemfjcaaChg
import Derived.Test.YtgoomcnaemfjcaaProg
import Derived.Deep.LoopGhost
import Derived.Deep.Light
namespace Go.Proofs.Ytgoomcnaemfjcaa
open Go.RowKit

theorem decmem_yes {l : List Int} {x : Int} (h : x ∈ l) : decide (x ∈ l) = true := decide_eq_true h
theorem decmem_no {l : List Int} {x : Int} (h : ∀ r, r < l.length → ig l r ≠ x) : decide (x ∈ l) = false := decide_eq_false fun e => by
  obtain ⟨j, hj, e⟩ := mem_ig.1 e
  exact h j hj e
set_option maxRecDepth 100000 in
theorem in_any (l : List Int) (a : Option Addr) (c : Nat) (x : Int) (w : World) (hI : Ints w a l) (hl : l.length < 9223372036854775808) :
    Calls Try.prog 18 #[.slice a l.length c, .int .i64 x] w (RetS (.bool (decide (x ∈ l))) w) := by
  go_enter Try.func18, Try.ntmps18
  go_wp2_with fail
  go_loopg [5] (l.length + 1) (fun k v wr => ∃ i : Nat, i ≤ l.length ∧ k + i = l.length + 1 ∧ v = .int .i64 i ∧ wr = w ∧ ∀ r, r < i → ig l r ≠ x)
  case atStart => exact ⟨0, by omega, by omega, rfl, rfl, fun r hr => absurd hr (by omega)⟩
  case round =>
    obtain ⟨i, hi, hki, rfl, rfl, hall⟩ := hrel
    have HA := Lib.hid hall
    clear hall
    by_cases hlt : i < l.length
    · obtain ⟨b, off, rfl, fc⟩ := hI.fam (by omega)
      have hc := fc i hlt
      clear fc
      obtain ⟨m, hm⟩ : ∃ m, m = ig l i := ⟨_, rfl⟩
      rw [← hm] at hc
      have HM := Lib.hid hm
      clear hm
      have n1 : (i : Int) < (l.length : Int) := by omega
      have n0 : (0 : Int) ≤ (i : Int) := by omega
      by_cases hmx : m = x
      · have HD := Lib.hid (decmem_yes (l := l) (x := x) (by rw [← hmx, HM.out]; exact ig_mem hlt))
        have e1 : (m == x) = true := by simpa using hmx
        clear hmx
        go_wp2_with fail
        go_ret
        exact retS (vbool HD.out.symm)
      · have e1 : (m == x) = false := by simpa using hmx
        have HX := Lib.hid hmx
        clear hmx
        go_wp2_with fail
        go_roundg (l.length - i)
        case measure => omega
        case rel => exact ⟨i + 1, by omega, by omega, by go_num, rfl, fun r hr => by
          rcases Nat.lt_succ_iff_lt_or_eq.1 hr with h | h
          · exact HA.out r h
          · subst h; rw [← HM.out]; exact HX.out⟩
    · obtain rfl : i = l.length := by omega
      have HD := Lib.hid (decmem_no HA.out)
      go_wp2_with fail
      go_ret
      exact retS (vbool HD.out.symm)
/-- the first index of a number, or -1 -/
def idxI (l : List Int) (x : Int) : Int := match l.findIdx? (fun y => y == x) with | some i => (i : Int) | none => -1
theorem idxI_at {l : List Int} {x : Int} {i : Nat} (hi : i < l.length) (h : ig l i = x) (hb : ∀ r, r < i → ig l r ≠ x) : idxI l x = i := by
  have : l.findIdx? (fun y => y == x) = some i := by
    rw [List.findIdx?_eq_some_iff_getElem]
    exact ⟨hi, by rw [← ig_lt hi, h]; simp, fun j hj => by
      have := hb j hj
      rw [ig_lt (by omega)] at this
      simpa using this⟩
  unfold idxI
  rw [this]
theorem idxI_no {l : List Int} {x : Int} (hb : ∀ r, r < l.length → ig l r ≠ x) : idxI l x = -1 := by
  have : l.findIdx? (fun y => y == x) = none := by
    rw [List.findIdx?_eq_none_iff]
    intro y hy
    obtain ⟨j, hj, rfl⟩ := mem_ig.1 hy
    simpa using hb j hj
  unfold idxI
  rw [this]
theorem idxI_pos {l : List Int} {x : Int} : decide (0 ≤ idxI l x) = decide (x ∈ l) := by
  by_cases h : x ∈ l
  · rw [decide_eq_true h]
    have : ∃ i, l.findIdx? (fun y => y == x) = some i := by
      cases e : l.findIdx? (fun y => y == x) with
      | some i => exact ⟨i, rfl⟩
      | none =>
        rw [List.findIdx?_eq_none_iff] at e
        have := e x h
        simp at this
    obtain ⟨i, hi⟩ := this
    unfold idxI
    rw [hi]
    simp
  · rw [decide_eq_false h]
    rw [idxI_no (fun r hr e => h (mem_ig.2 ⟨r, hr, e⟩))]
    rfl
set_option maxRecDepth 100000 in
theorem index_any (l : List Int) (a : Option Addr) (c : Nat) (x : Int) (w : World) (hI : Ints w a l) (hl : l.length < 9223372036854775808) :
    Calls Try.prog 31 #[.slice a l.length c, .int .i64 x] w (RetS (.int .i64 (idxI l x)) w) := by
  go_enter Try.func31, Try.ntmps31
  go_wp2_with fail
  go_loopg [8] (l.length + 1) (fun k v wr => ∃ i : Nat, i ≤ l.length ∧ k + i = l.length + 1 ∧ v = .int .i64 i ∧ wr = w ∧ ∀ r, r < i → ig l r ≠ x)
  case atStart => exact ⟨0, by omega, by omega, rfl, rfl, fun r hr => absurd hr (by omega)⟩
  case round =>
    obtain ⟨i, hi, hki, rfl, rfl, hall⟩ := hrel
    have HA := Lib.hid hall
    clear hall
    by_cases hlt : i < l.length
    · obtain ⟨b, off, rfl, fc⟩ := hI.fam (by omega)
      have hc := fc i hlt
      clear fc
      obtain ⟨m, hm⟩ : ∃ m, m = ig l i := ⟨_, rfl⟩
      rw [← hm] at hc
      have HM := Lib.hid hm
      clear hm
      have n1 : (i : Int) < (l.length : Int) := by omega
      have n0 : (0 : Int) ≤ (i : Int) := by omega
      by_cases hmx : m = x
      · have HD := Lib.hid (idxI_at (l := l) (x := x) hlt (by rw [← HM.out]; exact hmx) HA.out)
        have e1 : (x == m) = true := by simpa using hmx.symm
        clear hmx
        go_wp2_with fail
        go_ret
        exact retS (vint HD.out.symm)
      · have e1 : (x == m) = false := by simpa using fun e => hmx e.symm
        have HX := Lib.hid hmx
        clear hmx
        go_wp2_with fail
        go_roundg (l.length - i)
        case measure => omega
        case rel => exact ⟨i + 1, by omega, by omega, by go_num, rfl, fun r hr => by
          rcases Nat.lt_succ_iff_lt_or_eq.1 hr with h | h
          · exact HA.out r h
          · subst h; rw [← HM.out]; exact HX.out⟩
    · obtain rfl : i = l.length := by omega
      have HD := Lib.hid (idxI_no HA.out)
      go_wp2_with fail
      go_ret
      exact retS (vint HD.out.symm)
set_option maxRecDepth 100000 in
theorem contains_any (l : List Int) (a : Option Addr) (c : Nat) (x : Int) (w : World) (hI : Ints w a l) (hl : l.length < 9223372036854775808) :
    Calls Try.prog 23 #[.slice a l.length c, .int .i64 x] w (RetS (.bool (decide (x ∈ l))) w) := by
  have HX := Lib.hid (index_any l a c x w hI hl)
  have HP := Lib.hid (idxI_pos (l := l) (x := x))
  obtain ⟨k, hk⟩ : ∃ k, k = idxI l x := ⟨_, rfl⟩
  rw [← hk] at HX HP
  clear hk
  go_enter Try.func23, Try.ntmps23
  go_wp2_with fail
  refine Calls.mono HX.out ?_
  rintro e w1 ⟨rfl, rfl⟩
  go_wp2_with fail
  go_ret
  exact retS (vbool (by have := HP.out; simpa using this))
set_option maxRecDepth 100000 in
theorem ints_any (l m : List Int) (a b : Option Addr) (c d : Nat) (w : World) (hI : Ints w a l) (hJ : Ints w b m) (hl : l.length < 9223372036854775808) :
    Calls Try.prog 27 #[.slice a l.length c, .slice b m.length d] w (RetB (.bool (decide (l = m))) w) := by
  by_cases hlm : l.length = m.length
  · have hm : m.length < 9223372036854775808 := by omega
    have HLM := Lib.hid hlm
    obtain ⟨n, hn⟩ : ∃ n, n = l.length := ⟨_, rfl⟩
    have HN := Lib.hid hn
    have HM := Lib.hid (hn.trans hlm)
    have hJ' := Lib.hid hJ
    have hI' := Lib.hid hI
    rw [← hlm, ← hn]
    have hn64 : n < 9223372036854775808 := by omega
    clear hlm hn hl hm hI hJ
    have e0 : ((n : Int) == (n : Int)) = true := by simp
    go_enter Try.func27, Try.ntmps27
    go_wp2_with fail
    go_loopg [5] (n + 1) (fun k v wr => ∃ i : Nat, i ≤ n ∧ k + i = n + 1 ∧ v = .int .i64 i ∧ Below w.heap.size w wr ∧ ∀ r, r < i → ig l r = ig m r)
    case atStart => exact ⟨0, by omega, by omega, rfl, Below.refl _ _, fun r hr => absurd hr (by omega)⟩
    case round =>
      obtain ⟨i, hi, hki, rfl, hbr, hall⟩ := hrel
      have HA := Lib.hid hall
      have HBR := Lib.hid hbr
      clear hall
      by_cases hlt : i < n
      · obtain ⟨b1, o1, rfl, f1⟩ := (hI'.out.later hbr).fam (by have := HN.out; omega)
        obtain ⟨b2, o2, rfl, f2⟩ := (hJ'.out.later hbr).fam (by have := HM.out; omega)
        have c1 := f1 i (by have := HN.out; omega)
        have c2 := f2 i (by have := HM.out; omega)
        clear f1 f2 hbr
        obtain ⟨u, hu⟩ : ∃ u, u = ig l i := ⟨_, rfl⟩
        obtain ⟨v, hv⟩ : ∃ v, v = ig m i := ⟨_, rfl⟩
        rw [← hu] at c1
        rw [← hv] at c2
        have HU := Lib.hid hu
        have HV := Lib.hid hv
        clear hu hv
        have n1 : (i : Int) < (n : Int) := by omega
        have n0 : (0 : Int) ≤ (i : Int) := by omega
        have hS : ∀ wy : World, Below wr.heap.size wr wy → wy.cell? ⟨b1, o1 + i, none⟩ = some (.int .i64 u) ∧ wy.cell? ⟨b2, o2 + i, none⟩ = some (.int .i64 v) := fun wy hy => ⟨cell_later hy c1, cell_later hy c2⟩
        go_wp2_with fail
        refine wp_flow_s [] [] (by kernel_rfl) (by kernel_rfl) (by kernel_rfl) ?_
        repeat (first | ((with_reducible refine Flow.pure hS StayG.nil (v := ?_) ?_ ?_ ?_ ?_); rotate_left 1; (focus kernel_rfl); (focus (intro _; rfl)); (focus (intro β wx hSw; (try dsimp only at hSw); go_simp; (try with_reducible rfl); done)); (try simp only [Act.put, List.setIfInBounds_toArray, List.set_cons_zero, List.set_cons_succ, Nat.reduceAdd])))
        ((with_reducible refine Flow.stop ?_); dsimp only; intro β w8 hI8)
        have HB8 := Lib.hid (HBR.out.trans (hI8.below.mono HBR.out.size))
        clear hS hI8 c1 c2
        by_cases huv : u = v
        · have e1 : (u == v) = true := by simpa using huv
          have HX := Lib.hid huv
          clear huv
          go_wp2_with fail
          go_roundg (n - i)
          case measure => omega
          case rel => exact ⟨i + 1, by omega, by omega, by go_num, HB8.out, fun r hr => by
            rcases Nat.lt_succ_iff_lt_or_eq.1 hr with h | h
            · exact HA.out r h
            · subst h; rw [← HU.out, ← HV.out]; exact HX.out⟩
        · have e1 : (u == v) = false := by simpa using huv
          have HD := Lib.hid (show decide (l = m) = false from decide_eq_false fun e => huv (by rw [HU.out, HV.out, e]))
          clear huv
          go_wp2_with fail
          go_ret
          exact retB (vbool HD.out.symm) HB8.out
      · obtain rfl : i = n := by omega
        have HD := Lib.hid (show decide (l = m) = true from decide_eq_true (List.ext_getElem HLM.out fun j h1 h2 => by
          have := HA.out j (by rw [HN.out]; exact h1)
          rwa [ig_lt h1, ig_lt h2] at this))
        go_wp2_with fail
        go_ret
        exact retB (vbool HD.out.symm) HBR.out
  · have HD := Lib.hid (show decide (l = m) = false from decide_eq_false fun e => hlm (by rw [e]))
    have e0 : ((l.length : Int) == (m.length : Int)) = false := by simp; omega
    have e0' : (l.length == m.length) = false := by simpa using hlm
    clear hlm
    go_enter Try.func27, Try.ntmps27
    go_wp2_with fail
    go_ret
    exact retB (vbool HD.out.symm) (Below.refl _ _)
end Go.Proofs.Ytgoomcnaemfjcaa
