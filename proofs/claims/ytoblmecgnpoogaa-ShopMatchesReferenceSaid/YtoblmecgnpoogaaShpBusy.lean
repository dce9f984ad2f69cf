

/- Package shop's laws: how many others run at an hour. -/
import Derived.Test.YtoblmecgnpoogaaShpF
import Derived.Test.YtoblmecgnpoogaaShpK
import Derived.Test.YtoblmecgnpoogaaShpW
namespace Go.Proofs.Ytoblmecgnpoogaa
open Go.RowKit

/-- others that run at an hour, of i's skill; with a bay -/
def oS (l : List Tk) (st : List Int) (i : Nat) (h : Int) (k : Nat) : Bool := (!decide (k = i) && runs l st h k) && decide ((tg l k).skill = (tg l i).skill)
def oB (l : List Tk) (st : List Int) (i : Nat) (h : Int) (k : Nat) : Bool := (!decide (k = i) && runs l st h k) && (tg l k).bay
def RetNN (x y : Int) (w : World) (e : Ending) (w' : World) : Prop := e = .returned (.tuple #[.int .i64 x, .int .i64 y]) ∧ Below w.heap.size w w'
set_option maxRecDepth 100000 in
set_option maxHeartbeats 4000000 in
theorem busy_any (l : List Tk) (a : Option Addr) (cap : Nat) (st : List Int) (ia : Option Addr) (ic i : Nat) (h : Int) (w : World) (hT : Tasks w a l) (hv : VT l) (hJ : Ints w ia st) (ho : HO l st) (hi : i < l.length) :
    Calls Try.prog 19 #[.slice a l.length cap, .slice ia st.length ic, .int .i64 i, .int .i64 h] w (RetNN (cntP (oS l st i h) l.length) (cntP (oB l st i h) l.length) w) := by
  obtain ⟨n, hn⟩ : ∃ n, n = l.length := ⟨_, rfl⟩
  obtain ⟨m, hm⟩ : ∃ m, m = st.length := ⟨_, rfl⟩
  have hmn : m = n := by rw [hm, hn]; exact ho.1
  subst hmn
  have h40 : m ≤ 40 := by rw [hn]; exact hv.1
  have him : i < m := by rw [hn]; exact hi
  have HT := Lib.hid hT
  have HJ := Lib.hid hJ
  have HN := Lib.hid hn
  have HM := Lib.hid hm
  have HV := Lib.hid hv
  have HO := Lib.hid ho
  rw [← hn, ← hm]
  clear hT hJ hn hm hv ho hi
  go_enter Try.func19, Try.ntmps19
  go_wp2_with fail
  go_loopg [10, 11, 12] (m + 1) (fun gk v10 v11 v12 wr => ∃ k : Nat, k ≤ m ∧ gk + k = m + 1 ∧ v12 = .int .i64 k ∧ v10 = .int .i64 (cntP (oS l st i h) k) ∧ v11 = .int .i64 (cntP (oB l st i h) k) ∧ Below w.heap.size w wr)
  case atStart => exact ⟨0, by omega, by omega, rfl, rfl, rfl, Below.refl _ _⟩
  case round =>
    obtain ⟨k, hk, hgk, rfl, rfl, rfl, hbr⟩ := hrel
    have HBR := Lib.hid hbr
    by_cases hlt : k < m
    · have hkL : k < l.length := by rw [← HN.out]; exact hlt
      have hiL : i < l.length := by rw [← HN.out]; exact him
      have hkS : k < st.length := by rw [← HM.out]; exact hlt
      obtain ⟨tb, tf, aa, ac, rfl, b0, b1, b2, _, _⟩ := (HT.out.later hbr) k hkL
      obtain ⟨tb2, tf2, _, _, e2, _, d1, _, _, _⟩ := (HT.out.later hbr) i hiL
      simp only [Option.some.injEq, Addr.mk.injEq, and_true] at e2
      obtain ⟨rfl, rfl⟩ := e2
      obtain ⟨jb, jo, rfl, fi⟩ := (HJ.out.later hbr).fam (by omega)
      have ci := fi k hkS
      have htk := HV.out.2 k hkL
      have hst := HO.out.2 _ (ig_mem hkS)
      have c1 := cntP_le (oS l st i h) k
      have c2 := cntP_le (oB l st i h) k
      have e1 : cntP (oS l st i h) (k + 1) = cntP (oS l st i h) k + if oS l st i h k then 1 else 0 := rfl
      have e2 : cntP (oB l st i h) (k + 1) = cntP (oB l st i h) k + if oB l st i h k then 1 else 0 := rfl
      have es : oS l st i h k = ((!decide (k = i) && (decide (ig st k ≤ h) && decide (h < ig st k + (tg l k).hours))) && decide ((tg l k).skill = (tg l i).skill)) := rfl
      have eb : oB l st i h k = ((!decide (k = i) && (decide (ig st k ≤ h) && decide (h < ig st k + (tg l k).hours))) && (tg l k).bay) := rfl
      obtain ⟨p, hp⟩ : ∃ u, u = cntP (oS l st i h) k := ⟨_, rfl⟩
      obtain ⟨q, hq⟩ : ∃ u, u = cntP (oB l st i h) k := ⟨_, rfl⟩
      obtain ⟨x, hx⟩ : ∃ x, x = ig st k := ⟨_, rfl⟩
      obtain ⟨y, hy⟩ : ∃ y, y = (tg l k).hours := ⟨_, rfl⟩
      obtain ⟨s1, hs1⟩ : ∃ y, y = (tg l k).skill := ⟨_, rfl⟩
      obtain ⟨s2, hs2⟩ : ∃ y, y = (tg l i).skill := ⟨_, rfl⟩
      obtain ⟨by', hby⟩ : ∃ y, y = (tg l k).bay := ⟨_, rfl⟩
      have h1 := htk.1
      have h2 := htk.2.1
      rw [← hp] at e1 c1
      rw [← hq] at e2 c2
      rw [← hx, ← hy, ← hs1, ← hs2] at es
      rw [← hx, ← hy, ← hby] at eb
      rw [← hx] at ci hst
      rw [← hy] at b0 h1 h2
      rw [← hs1] at b1
      rw [← hs2] at d1
      rw [← hby] at b2
      rw [← hp, ← hq]
      have hw1 : IntKind.i64.wrap (x + y) = x + y := IntWalk.i64_in _ (by omega)
      have HW := Lib.hid hw1
      have HE1 := Lib.hid e1
      have HE2 := Lib.hid e2
      have HES := Lib.hid es
      have HEB := Lib.hid eb
      have n1 : (k : Int) < (m : Int) := by omega
      have n0 : (0 : Int) ≤ (k : Int) := by omega
      have m1 : (i : Int) < (m : Int) := by omega
      have m0 : (0 : Int) ≤ (i : Int) := by omega
      have hS : ∀ wy : World, Below wr.heap.size wr wy → wy.cell? ⟨tb, tf + k * 4, none⟩ = some (.int .i64 y) ∧ wy.cell? ⟨tb, tf + k * 4 + 1, none⟩ = some (.int .i64 s1) ∧ wy.cell? ⟨tb, tf + k * 4 + 2, none⟩ = some (.bool by') ∧ wy.cell? ⟨tb, tf + i * 4 + 1, none⟩ = some (.int .i64 s2) ∧ wy.cell? ⟨jb, jo + k, none⟩ = some (.int .i64 x) := fun wy hy => ⟨cell_later hy b0, cell_later hy b1, cell_later hy b2, cell_later hy d1, cell_later hy ci⟩
      clear hp hq hx hy hs1 hs2 hby fi htk hst h1 h2 b0 b1 b2 d1 ci hkL hiL hkS hbr e1 e2 es eb
      go_upto_region 5 with fail
      by_cases hki : k = i
      · have HZ := Lib.hid (show oS l st i h k = false ∧ oB l st i h k = false from by rw [HES.out, HEB.out]; simp [hki])
        subst hki
        (refine wp_flow_s [] [] (by kernel_rfl) (by kernel_rfl) (by kernel_rfl) ?_; repeat (first | ((with_reducible refine Flow.pure hS StayG.nil (v := ?_) ?_ ?_ ?_ ?_); rotate_left 1; (focus kernel_rfl); (focus (intro _; rfl)); (focus (intro β wx hSw; (try dsimp only at hSw); go_simp; (try with_reducible rfl); done)); (try simp only [Act.put, List.setIfInBounds_toArray, List.set_cons_zero, List.set_cons_succ, Nat.reduceAdd])) | ((with_reducible refine Flow.skip StayG.nil ?_ ?_ ?_); (focus kernel_rfl); (focus (intro _; rfl)); (try simp only [Act.put, List.setIfInBounds_toArray, List.set_cons_zero, List.set_cons_succ, Nat.reduceAdd]))))
        ((with_reducible refine Flow.stop ?_); dsimp only; intro β w9 hI9)
        have HB9 := Lib.hid (HBR.out.trans (hI9.below.mono HBR.out.size))
        clear hS hI9 hw1
        go_wp2_with fail
        go_roundg (gk - 1)
        case measure => omega
        case rel => exact ⟨k + 1, by omega, by omega, by go_num, by rw [HE1.out, HZ.out.1]; rfl, by rw [HE2.out, HZ.out.2]; rfl, HB9.out⟩
      have hki' : ((k : Int) == (i : Int)) = false := beq_eq_false_iff_ne.2 (by omega)
      by_cases hx1 : h < x
      · have HZ := Lib.hid (show oS l st i h k = false ∧ oB l st i h k = false from by rw [HES.out, HEB.out, decide_eq_false (p := x ≤ h) (by omega)]; simp)
        clear hki
        (refine wp_flow_s [] [] (by kernel_rfl) (by kernel_rfl) (by kernel_rfl) ?_; repeat (first | ((with_reducible refine Flow.pure hS StayG.nil (v := ?_) ?_ ?_ ?_ ?_); rotate_left 1; (focus kernel_rfl); (focus (intro _; rfl)); (focus (intro β wx hSw; (try dsimp only at hSw); go_simp; (try with_reducible rfl); done)); (try simp only [Act.put, List.setIfInBounds_toArray, List.set_cons_zero, List.set_cons_succ, Nat.reduceAdd])) | ((with_reducible refine Flow.skip StayG.nil ?_ ?_ ?_); (focus kernel_rfl); (focus (intro _; rfl)); (try simp only [Act.put, List.setIfInBounds_toArray, List.set_cons_zero, List.set_cons_succ, Nat.reduceAdd]))))
        ((with_reducible refine Flow.stop ?_); dsimp only; intro β w9 hI9)
        have HB9 := Lib.hid (HBR.out.trans (hI9.below.mono HBR.out.size))
        clear hS hI9 hw1
        go_wp2_with fail
        go_roundg (gk - 1)
        case measure => omega
        case rel => exact ⟨k + 1, by omega, by omega, by go_num, by rw [HE1.out, HZ.out.1]; rfl, by rw [HE2.out, HZ.out.2]; rfl, HB9.out⟩
      by_cases hx2 : x + y ≤ h
      · have HZ := Lib.hid (show oS l st i h k = false ∧ oB l st i h k = false from by rw [HES.out, HEB.out, decide_eq_false (p := h < x + y) (by omega)]; simp)
        clear hki
        (refine wp_flow_s [] [] (by kernel_rfl) (by kernel_rfl) (by kernel_rfl) ?_; repeat (first | ((with_reducible refine Flow.pure hS StayG.nil (v := ?_) ?_ ?_ ?_ ?_); rotate_left 1; (focus kernel_rfl); (focus (intro _; rfl)); (focus (intro β wx hSw; (try dsimp only at hSw); go_simp; (try with_reducible rfl); done)); (try simp only [Act.put, List.setIfInBounds_toArray, List.set_cons_zero, List.set_cons_succ, Nat.reduceAdd])) | ((with_reducible refine Flow.skip StayG.nil ?_ ?_ ?_); (focus kernel_rfl); (focus (intro _; rfl)); (try simp only [Act.put, List.setIfInBounds_toArray, List.set_cons_zero, List.set_cons_succ, Nat.reduceAdd]))))
        ((with_reducible refine Flow.stop ?_); dsimp only; intro β w9 hI9)
        have HB9 := Lib.hid (HBR.out.trans (hI9.below.mono HBR.out.size))
        clear hS hI9 hw1
        go_wp2_with fail
        go_roundg (gk - 1)
        case measure => omega
        case rel => exact ⟨k + 1, by omega, by omega, by go_num, by rw [HE1.out, HZ.out.1]; rfl, by rw [HE2.out, HZ.out.2]; rfl, HB9.out⟩
      have HZS := Lib.hid (show oS l st i h k = decide (s1 = s2) from by rw [HES.out, decide_eq_false hki, decide_eq_true (p := x ≤ h) (by omega), decide_eq_true (p := h < x + y) (by omega)]; simp)
      have HZB := Lib.hid (show oB l st i h k = by' from by rw [HEB.out, decide_eq_false hki, decide_eq_true (p := x ≤ h) (by omega), decide_eq_true (p := h < x + y) (by omega)]; simp)
      clear hki
      (refine wp_flow_s [] [] (by kernel_rfl) (by kernel_rfl) (by kernel_rfl) ?_; repeat (first | ((with_reducible refine Flow.pure hS StayG.nil (v := ?_) ?_ ?_ ?_ ?_); rotate_left 1; (focus kernel_rfl); (focus (intro _; rfl)); (focus (intro β wx hSw; (try dsimp only at hSw); go_simp; (try with_reducible rfl); done)); (try simp only [Act.put, List.setIfInBounds_toArray, List.set_cons_zero, List.set_cons_succ, Nat.reduceAdd])) | ((with_reducible refine Flow.skip StayG.nil ?_ ?_ ?_); (focus kernel_rfl); (focus (intro _; rfl)); (try simp only [Act.put, List.setIfInBounds_toArray, List.set_cons_zero, List.set_cons_succ, Nat.reduceAdd]))))
      ((with_reducible refine Flow.stop ?_); dsimp only; intro β w9 hI9)
      have HB9 := Lib.hid (HBR.out.trans (hI9.below.mono HBR.out.size))
      have hS9 : ∀ wy : World, Below w9.heap.size w9 wy → wy.cell? ⟨tb, tf + k * 4 + 1, none⟩ = some (.int .i64 s1) ∧ wy.cell? ⟨tb, tf + k * 4 + 2, none⟩ = some (.bool by') ∧ wy.cell? ⟨tb, tf + i * 4 + 1, none⟩ = some (.int .i64 s2) := fun wy hy => ⟨cell_later hy (hS w9 hI9.below).2.1, cell_later hy (hS w9 hI9.below).2.2.1, cell_later hy (hS w9 hI9.below).2.2.2.1⟩
      clear hS hI9 hw1 hki' hx1 hx2
      go_upto_region 6 with fail
      have hS := hS9
      by_cases hss : s1 = s2
      · have HS1 := Lib.hid (show oS l st i h k = true from by rw [HZS.out]; exact decide_eq_true hss)
        subst hss
        (refine wp_flow_s [] [] (by kernel_rfl) (by kernel_rfl) (by kernel_rfl) ?_; repeat (first | ((with_reducible refine Flow.pure hS StayG.nil (v := ?_) ?_ ?_ ?_ ?_); rotate_left 1; (focus kernel_rfl); (focus (intro _; rfl)); (focus (intro β wx hSw; (try dsimp only at hSw); go_simp; (try with_reducible rfl); done)); (try simp only [Act.put, List.setIfInBounds_toArray, List.set_cons_zero, List.set_cons_succ, Nat.reduceAdd])) | ((with_reducible refine Flow.skip StayG.nil ?_ ?_ ?_); (focus kernel_rfl); (focus (intro _; rfl)); (try simp only [Act.put, List.setIfInBounds_toArray, List.set_cons_zero, List.set_cons_succ, Nat.reduceAdd]))))
        ((with_reducible refine Flow.stop ?_); dsimp only; intro β w10 hI10)
        have HB10 := Lib.hid (HB9.out.trans (hI10.below.mono HB9.out.size))
        have c2 := (hS9 w10 hI10.below).2.1
        clear hS hS9 hI10
        cases by'
        · go_wp2_with fail
          go_roundg (gk - 1)
          case measure => omega
          case rel => exact ⟨k + 1, by omega, by omega, by go_num, by rw [HE1.out, HS1.out]; go_num, by rw [HE2.out, HZB.out]; rfl, HB10.out⟩
        · go_wp2_with fail
          go_roundg (gk - 1)
          case measure => omega
          case rel => exact ⟨k + 1, by omega, by omega, by go_num, by rw [HE1.out, HS1.out]; go_num, by rw [HE2.out, HZB.out]; go_num, HB10.out⟩
      · have HS1 := Lib.hid (show oS l st i h k = false from by rw [HZS.out]; exact decide_eq_false hss)
        have hss' : (s1 == s2) = false := beq_eq_false_iff_ne.2 hss
        clear hss
        (refine wp_flow_s [] [] (by kernel_rfl) (by kernel_rfl) (by kernel_rfl) ?_; repeat (first | ((with_reducible refine Flow.pure hS StayG.nil (v := ?_) ?_ ?_ ?_ ?_); rotate_left 1; (focus kernel_rfl); (focus (intro _; rfl)); (focus (intro β wx hSw; (try dsimp only at hSw); go_simp; (try with_reducible rfl); done)); (try simp only [Act.put, List.setIfInBounds_toArray, List.set_cons_zero, List.set_cons_succ, Nat.reduceAdd])) | ((with_reducible refine Flow.skip StayG.nil ?_ ?_ ?_); (focus kernel_rfl); (focus (intro _; rfl)); (try simp only [Act.put, List.setIfInBounds_toArray, List.set_cons_zero, List.set_cons_succ, Nat.reduceAdd]))))
        ((with_reducible refine Flow.stop ?_); dsimp only; intro β w10 hI10)
        have HB10 := Lib.hid (HB9.out.trans (hI10.below.mono HB9.out.size))
        have c2 := (hS9 w10 hI10.below).2.1
        clear hS hS9 hI10
        cases by'
        · go_wp2_with fail
          go_roundg (gk - 1)
          case measure => omega
          case rel => exact ⟨k + 1, by omega, by omega, by go_num, by rw [HE1.out, HS1.out]; rfl, by rw [HE2.out, HZB.out]; rfl, HB10.out⟩
        · go_wp2_with fail
          go_roundg (gk - 1)
          case measure => omega
          case rel => exact ⟨k + 1, by omega, by omega, by go_num, by rw [HE1.out, HS1.out]; rfl, by rw [HE2.out, HZB.out]; go_num, HB10.out⟩
    · obtain rfl : k = m := by omega
      clear hlt hbr
      go_wp2_with fail
      go_ret2
      exact ⟨rfl, HBR.out⟩
end Go.Proofs.Ytoblmecgnpoogaa
