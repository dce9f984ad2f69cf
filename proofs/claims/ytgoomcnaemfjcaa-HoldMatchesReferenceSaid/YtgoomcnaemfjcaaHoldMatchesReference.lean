


/- HoldMatchesReference: for all Ids, records and vehicle, All and On agree with the reference implementation: the call of the law returns true, for every input. -/
import Derived.Test.YtgoomcnaemfjcaaHldI
import Derived.Test.YtgoomcnaemfjcaaHldN
namespace Go.Proofs.Ytgoomcnaemfjcaa
open Go.ChangeShapes Go.WideShapes Go.ChangeAt Go.RowKit Go.Joins

namespace HoldMatchesReference
theorem onL_map (v : ByteArray) (L : List HA) : (onL v L).map (·.1) = (L.map (·.1)).filter (onB v) := by
  rw [List.filter_map]
  rfl
set_option maxRecDepth 100000 in
theorem rall_ne (ids : List ByteArray) (l : List Rec) (ia ra : Option Addr) (ic rc : Nat) (w : World) (hne : ids.length ≠ l.length) :
    Calls Try.prog 12 #[.slice ia ids.length ic, .slice ra l.length rc] w (RetH w (allH ids l)) := by
  have HD := Lib.hid (show allH ids l = [] from if_neg hne)
  have e0 : ((ids.length : Int) == (l.length : Int)) = false := by simp; omega
  have e0' : (ids.length == l.length) = false := by simpa using hne
  clear hne
  go_enter Try.func12, Try.ntmps12
  go_wp2_with fail
  go_ret
  exact ⟨none, 0, [], rfl, by rw [HD.out]; rfl, El.At.nil, fun x hx => (by cases hx), by simp, by simp, fun _ => rfl, (by repeat (first | exact Below.refl _ _ | assumption | refine Below.drew ?_ | refine below_drewN ?_ _ | refine Below.alloc ?_ (by first | omega | (simp; done) | (simp; omega)) _ | refine Below.setCell ?_ (by first | omega | (simp; done) | (simp; omega)) _ | refine Below.trans ?_ (Below.mono (by assumption) (by first | omega | (simp; done) | (simp; omega)))))⟩
theorem rall_all (ids : List ByteArray) (l : List Rec) (ia ra : Option Addr) (ic rc : Nat) (w : World) (hI : ES.At w ia ids) (hR : ER.At w ra l) (hA : RecAll w l) (hl : l.length ≤ 1000) :
    Calls Try.prog 12 #[.slice ia ids.length ic, .slice ra l.length rc] w (RetH w (allH ids l)) := by
  by_cases h : ids.length = l.length
  · exact rall_any ids l ia ra ic rc w h hI hR hA hl
  · exact rall_ne ids l ia ra ic rc w h
set_option maxRecDepth 100000 in
set_option maxHeartbeats 4000000 in
theorem no (ids : List ByteArray) (l : List Rec) (ia ra : Option Addr) (ic rc : Nat) (v : ByteArray) (w : World) (hI : ES.At w ia ids) (hR : ER.At w ra l) (hA : RecAll w l) (hno : ¬ FewR ids l 30 ∨ (FewR ids l 30 ∧ 100 < v.size)) :
    Calls Try.prog 3 #[.slice ia ids.length ic, .slice ra l.length rc, .string v] w (RetB (.bool true) w) := by
  have HI := Lib.hid hI
  have HR := Lib.hid hR
  have HRA := Lib.hid hA
  clear hI hR hA
  rcases hno with h | ⟨h, hv⟩
  · have HF := Lib.hid (fewRB_no h)
    clear h
    go_enter Try.func3, Try.ntmps3
    go_wp2_with fail
    refine Calls.mono (head_any _) ?_
    rintro e w1 ⟨rfl, hb1⟩
    have HB1 := Lib.hid hb1
    clear hb1
    go_wp2_with fail
    have hf := few_any ids l ia ra ic rc w1 (HI.out.later HB1.out) (HR.out.later HB1.out) (HRA.out.later HB1.out)
    rw [HF.out] at hf
    refine Calls.mono hf ?_
    rintro e w2 ⟨rfl, rfl⟩
    clear hf
    go_wp2_with fail
    go_ret
    exact retB rfl HB1.out
  · have HF := Lib.hid (fewRB_yes h)
    have n1 : (100 : Int) < (v.size : Int) := by omega
    clear h hv
    go_enter Try.func3, Try.ntmps3
    go_wp2_with fail
    refine Calls.mono (head_any _) ?_
    rintro e w1 ⟨rfl, hb1⟩
    have HB1 := Lib.hid hb1
    clear hb1
    go_wp2_with fail
    have hf := few_any ids l ia ra ic rc w1 (HI.out.later HB1.out) (HR.out.later HB1.out) (HRA.out.later HB1.out)
    rw [HF.out] at hf
    refine Calls.mono hf ?_
    rintro e w2 ⟨rfl, rfl⟩
    clear hf
    go_wp2_with fail
    go_ret
    exact retB rfl HB1.out
set_option maxRecDepth 100000 in
set_option maxHeartbeats 16000000 in
theorem yes (ids : List ByteArray) (l : List Rec) (ia ra : Option Addr) (ic rc : Nat) (v : ByteArray) (w : World) (hI : ES.At w ia ids) (hR : ER.At w ra l) (hA : RecAll w l) (hf0 : FewR ids l 30) (hv : v.size ≤ 100) :
    Calls Try.prog 3 #[.slice ia ids.length ic, .slice ra l.length rc, .string v] w (RetB (.bool true) w) := by
  have HI := Lib.hid hI
  have HR := Lib.hid hR
  have HRA := Lib.hid hA
  have hl30 := hf0.1
  have hall30 : (allH ids l).length ≤ 30 := by
    unfold allH
    split
    · have := runH_len (ids.zip l)
      rw [List.length_zip] at this
      omega
    · simp
  obtain ⟨hs, hhs⟩ : ∃ hs, hs = allH ids l := ⟨_, rfl⟩
  obtain ⟨n1, hn1⟩ : ∃ n, n = ids.length := ⟨_, rfl⟩
  obtain ⟨n2, hn2⟩ : ∃ n, n = l.length := ⟨_, rfl⟩
  have HFEW := Lib.hid (show ∀ wy, Below w.heap.size w wy → Calls Try.prog 10 #[.slice ia n1 ic, .slice ra n2 rc] wy (RetS (.bool true) wy) from fun wy hy => by
    have h := few_any ids l ia ra ic rc wy (hI.later hy) (hR.later hy) (hA.later hy)
    rw [fewRB_yes hf0, ← hn1, ← hn2] at h
    exact h)
  have HALL := Lib.hid (show ∀ wy, Below w.heap.size w wy → Calls Try.prog 11 #[.slice ia n1 ic, .slice ra n2 rc] wy (RetH wy hs) from fun wy hy => by
    have h := all_any ids l ia ra ic rc wy (hI.later hy) (hR.later hy) (hA.later hy) (hf0.few (by omega))
    rw [← hhs, ← hn1, ← hn2] at h
    exact h)
  have HRALL := Lib.hid (show ∀ wy, Below w.heap.size w wy → Calls Try.prog 12 #[.slice ia n1 ic, .slice ra n2 rc] wy (RetH wy hs) from fun wy hy => by
    have h := rall_all ids l ia ra ic rc wy (hI.later hy) (hR.later hy) (hA.later hy) (by omega)
    rw [← hhs, ← hn1, ← hn2] at h
    exact h)
  rw [← hhs] at hall30
  rw [← hn1, ← hn2]
  have nv : ¬ (100 : Int) < (v.size : Int) := by omega
  clear hI hR hA hf0 hn1 hn2 hhs HI HR HRA hl30 hv
  go_enter Try.func3, Try.ntmps3
  go_wp2_with fail
  refine Calls.mono (head_any _) ?_
  rintro e w1 ⟨rfl, hb1⟩
  have HB1 := Lib.hid hb1
  clear hb1
  go_wp2_with fail
  refine Calls.mono (HFEW.out w1 HB1.out) ?_
  rintro e w2 ⟨rfl, rfl⟩
  go_wp2_with fail
  refine Calls.mono (HALL.out w1 HB1.out) ?_
  rintro e w3 ⟨aA, cA, LA, rfl, hA1, hA2, hA3, hA4, hA5, _, hb3⟩
  have HB3 := Lib.hid (HB1.out.trans (hb3.mono HB1.out.size))
  have HAA := Lib.hid hA2
  have HAL := Lib.hid hA3
  have HA1 := Lib.hid hA1
  obtain ⟨m, hm⟩ : ∃ m, m = LA.length := ⟨_, rfl⟩
  have HM := Lib.hid hm
  have hm30 : m ≤ 1000 := by
    have h := congrArg List.length hA1
    rw [List.length_map] at h
    omega
  rw [← hm] at hA4 ⊢
  clear hA1 hA2 hA3 hb3 hm hall30
  go_wp2_with fail
  refine Calls.mono (HRALL.out w3 HB3.out) ?_
  rintro e w4 ⟨aB, cB, LB, rfl, hC1, hC2, hC3, hC4, hC5, _, hb4⟩
  have hrl : LA.map (·.1) = LB.map (·.1) := by rw [HA1.out, hC1]
  have HRL := Lib.hid hrl
  have hmB : LB.length = m := by
    have h := congrArg List.length hrl
    rw [List.length_map, List.length_map] at h
    have := HM.out
    omega
  have HMB := Lib.hid hmB
  rw [hmB] at hC4 ⊢
  have HBB := Lib.hid hC2
  have HBL := Lib.hid hC3
  have HA4 := Lib.hid (HAA.out.later hb4)
  have HAL4 := Lib.hid (HAL.out.later hb4)
  have HB4 := Lib.hid (HB3.out.trans (hb4.mono HB3.out.size))
  obtain ⟨K1, hK1⟩ : ∃ K, K = onL v LA := ⟨_, rfl⟩
  obtain ⟨K2, hK2⟩ : ∃ K, K = onL v LB := ⟨_, rfl⟩
  have HON1 := Lib.hid (show ∀ wy, Below w4.heap.size w4 wy → Calls Try.prog 16 #[.slice aA m cA, .string v] wy (RetL wy K1) from fun wy hy => by
    have h := on_any LA v aA cA wy (HA4.out.later hy) (HAL4.out.later hy) (by have := HM.out; omega)
    rw [← HM.out, ← hK1] at h
    exact h)
  have HON2 := Lib.hid (show ∀ wy, Below w4.heap.size w4 wy → Calls Try.prog 17 #[.slice aB m cB, .string v] wy (RetL wy K2) from fun wy hy => by
    have h := ron_any LB v aB cB wy (HBB.out.later hy) (HBL.out.later hy) (by omega)
    rw [hmB, ← hK2] at h
    exact h)
  have HSM1 := Lib.hid (show ∀ wy, Below w4.heap.size w4 wy → Calls Try.prog 15 #[.slice aA m cA, .slice aB m cB] wy (RetB (.bool true) wy) from fun wy hy => by
    have h := same_any LA LB aA aB cA cB wy (HA4.out.later hy) (HBB.out.later hy) (HAL4.out.later hy) (HBL.out.later hy) (by have := HM.out; omega)
    rw [sameB_yes HRL.out, ← HM.out, hmB] at h
    exact h)
  have HSM2 := Lib.hid (show ∀ (a6 a7 : Option Addr) (c6 c7 : Nat) wy, Below w4.heap.size w4 wy → EH.At wy a6 K1 → EH.At wy a7 K2 → Calls Try.prog 15 #[.slice a6 K1.length c6, .slice a7 K2.length c7] wy (RetB (.bool true) wy) from fun a6 a7 c6 c7 wy hy h6 h7 => by
    have h := same_any K1 K2 a6 a7 c6 c7 wy h6 h7 (fun x hx => (HAL4.out x (by rw [hK1] at hx; exact (List.mem_filter.1 hx).1)).later hy) (fun x hx => (HBL.out x (by rw [hK2] at hx; exact (List.mem_filter.1 hx).1)).later hy) (by have h := List.length_filter_le (fun x : HA => onB v x.1) LA; have := HM.out; rw [hK1]; show (List.filter (fun x : HA => onB v x.1) LA).length < _; omega)
    rw [sameB_yes (by rw [hK1, hK2, onL_map, onL_map, HRL.out])] at h
    exact h)
  clear hrl hC1 hC2 hC3 hb4 hmB HAA HAL HA1 HFEW HALL HRALL hK1 hK2
  go_wp2_with fail
  go_loopg [10] (m + 1) (fun k v10 wr => ∃ i : Nat, i ≤ m ∧ k + i = m + 1 ∧ v10 = .int .i64 i ∧ Below w4.heap.size w4 wr)
  case atStart => exact ⟨0, by omega, by omega, rfl, Below.refl _ _⟩
  case round =>
    obtain ⟨i, hi, hki, rfl, hbr⟩ := hrel
    have HBR := Lib.hid hbr
    by_cases hlt2 : i < m
    · have hiA : i < LA.length := by have := HM.out; omega
      have hatA := HA4.out.later hbr
      obtain ⟨ab, ao, rfl, _⟩ := hatA.head (by omega)
      obtain ⟨c0, c1, c2, c3⟩ := hd_cells hatA hiA
      have hxA := (HAL4.out _ (List.getElem_mem hiA)).later hbr
      obtain ⟨x, hxe⟩ : ∃ x, x = LA[i] := ⟨_, rfl⟩
      rw [← hxe] at c0 c1 c2 c3 hxA
      obtain ⟨q, hq⟩ : ∃ q, q = outB x.1 := ⟨_, rfl⟩
      have hOut := Lib.hid (show ∀ wy, HdAt wy x.1 x.2.1 x.2.2.2.1 → Calls Try.prog 13 #[.agg #[.string x.1.id, .string x.1.veh, .slice x.2.1 x.1.mem.length x.2.2.1, .slice x.2.2.2.1 x.1.back.length x.2.2.2.2]] wy (RetB (.bool q) wy) from fun wy h => by rw [hq]; exact out_any x.1 _ _ _ _ wy h)
      have hROut := Lib.hid (show ∀ wy, HdAt wy x.1 x.2.1 x.2.2.2.1 → Calls Try.prog 14 #[.agg #[.string x.1.id, .string x.1.veh, .slice x.2.1 x.1.mem.length x.2.2.1, .slice x.2.2.2.1 x.1.back.length x.2.2.2.2]] wy (RetB (.bool q) wy) from fun wy h => by rw [hq]; exact rout_any x.1 _ _ _ _ wy h)
      have n1 : (i : Int) < (m : Int) := by omega
      have n0 : (0 : Int) ≤ (i : Int) := by omega
      have hS : ∀ wy : World, Below wr.heap.size wr wy → (wy.cell? ⟨ab, ao + i * 4, none⟩ = some (.string x.1.id) ∧ wy.cell? ⟨ab, ao + i * 4 + 1, none⟩ = some (.string x.1.veh) ∧ wy.cell? ⟨ab, ao + i * 4 + 2, none⟩ = some (.slice x.2.1 x.1.mem.length x.2.2.1) ∧ wy.cell? ⟨ab, ao + i * 4 + 3, none⟩ = some (.slice x.2.2.2.1 x.1.back.length x.2.2.2.2)) ∧ HdAt wy x.1 x.2.1 x.2.2.2.1 := fun wy hy => ⟨⟨cell_later hy c0, cell_later hy c1, cell_later hy c2, cell_later hy c3⟩, hxA.later hy⟩
      clear hatA hxA hxe hbr hq
      cases q <;> (
        go_wp2_with fail
        refine wp_flow_s [] [] (by kernel_rfl) (by kernel_rfl) (by kernel_rfl) ?_
        repeat (first | ((with_reducible refine Flow.pure hS StayG.nil (v := ?_) ?_ ?_ ?_ ?_); rotate_left 1; (focus kernel_rfl); (focus (intro _; rfl)); (focus (intro β wx hSw; (try dsimp only at hSw); go_simp; (try with_reducible rfl); done)); (try simp only [Act.put, List.setIfInBounds_toArray, List.set_cons_zero, List.set_cons_succ, Nat.reduceAdd])) | ((with_reducible refine Flow.skip StayG.nil ?_ ?_ ?_); (focus kernel_rfl); (focus (intro _; rfl)); (try simp only [Act.put, List.setIfInBounds_toArray, List.set_cons_zero, List.set_cons_succ, Nat.reduceAdd])))
        ((with_reducible refine Flow.call hS StayG.nil (v := ?_) ?_ ?_ ?_ ?_); rotate_left 1; (focus kernel_rfl); (focus (intro _; rfl)); (focus (intro β L wx hI hat hSw K' hK; (try dsimp only at hSw); go_simp; go_at_call 13; refine Calls.mono (hOut.out _ hSw.2) ?_; rintro e w' ⟨rfl, hb'⟩; exact hK.out _ hb')); (try simp only [Act.put, List.setIfInBounds_toArray, List.set_cons_zero, List.set_cons_succ, Nat.reduceAdd]))
        repeat (first | ((with_reducible refine Flow.pure hS StayG.nil (v := ?_) ?_ ?_ ?_ ?_); rotate_left 1; (focus kernel_rfl); (focus (intro _; rfl)); (focus (intro β wx hSw; (try dsimp only at hSw); go_simp; (try with_reducible rfl); done)); (try simp only [Act.put, List.setIfInBounds_toArray, List.set_cons_zero, List.set_cons_succ, Nat.reduceAdd])) | ((with_reducible refine Flow.skip StayG.nil ?_ ?_ ?_); (focus kernel_rfl); (focus (intro _; rfl)); (try simp only [Act.put, List.setIfInBounds_toArray, List.set_cons_zero, List.set_cons_succ, Nat.reduceAdd])))
        ((with_reducible refine Flow.call hS StayG.nil (v := ?_) ?_ ?_ ?_ ?_); rotate_left 1; (focus kernel_rfl); (focus (intro _; rfl)); (focus (intro β L wx hI hat hSw K' hK; (try dsimp only at hSw); go_simp; go_at_call 14; refine Calls.mono (hROut.out _ hSw.2) ?_; rintro e w' ⟨rfl, hb'⟩; exact hK.out _ hb')); (try simp only [Act.put, List.setIfInBounds_toArray, List.set_cons_zero, List.set_cons_succ, Nat.reduceAdd]))
        repeat (first | ((with_reducible refine Flow.pure hS StayG.nil (v := ?_) ?_ ?_ ?_ ?_); rotate_left 1; (focus kernel_rfl); (focus (intro _; rfl)); (focus (intro β wx hSw; (try dsimp only at hSw); go_simp; (try with_reducible rfl); done)); (try simp only [Act.put, List.setIfInBounds_toArray, List.set_cons_zero, List.set_cons_succ, Nat.reduceAdd])) | ((with_reducible refine Flow.skip StayG.nil ?_ ?_ ?_); (focus kernel_rfl); (focus (intro _; rfl)); (try simp only [Act.put, List.setIfInBounds_toArray, List.set_cons_zero, List.set_cons_succ, Nat.reduceAdd])))
        ((with_reducible refine Flow.stop ?_); dsimp only; intro β w8 hI8)
        have HB8 := Lib.hid (HBR.out.trans (hI8.below.mono HBR.out.size))
        clear hS hI8 c0 c1 c2 c3
        go_wp2_with fail
        go_roundg (m - i)
        case measure => omega
        case rel => exact ⟨i + 1, by omega, by omega, by go_num, HB8.out⟩)
    · obtain rfl : i = m := by omega
      have HBW := Lib.hid (HB4.out.trans (hbr.mono HB4.out.size))
      clear hbr
      go_wp2_with fail
      refine Calls.mono (HSM1.out _ HBR.out) ?_
      rintro e w5 ⟨rfl, hb5⟩
      have HB5 := Lib.hid (HBR.out.trans (hb5.mono HBR.out.size))
      clear hb5
      go_wp2_with fail
      refine Calls.mono (HON1.out _ HB5.out) ?_
      rintro e w6 ⟨a6, c6, rfl, hat6, hb6⟩
      have HB6 := Lib.hid (HB5.out.trans (hb6.mono HB5.out.size))
      have HAT6 := Lib.hid hat6
      clear hb6 hat6
      go_wp2_with fail
      refine Calls.mono (HON2.out _ HB6.out) ?_
      rintro e w7 ⟨a7, c7, rfl, hat7, hb7⟩
      have HB7 := Lib.hid (HB6.out.trans (hb7.mono HB6.out.size))
      have HAT6' := Lib.hid (HAT6.out.later hb7)
      have HAT7 := Lib.hid hat7
      clear hb7 hat7
      go_wp2_with fail
      refine Calls.mono (HSM2.out a6 a7 c6 c7 _ HB7.out HAT6'.out HAT7.out) ?_
      rintro e w8 ⟨rfl, hb8⟩
      have HB8 := Lib.hid (HB4.out.trans ((HB7.out.trans (hb8.mono HB7.out.size)).mono HB4.out.size))
      clear hb8
      go_wp2_with fail
      go_ret
      exact retB rfl HB8.out
theorem walk (W : World) (ia : Option Addr) (ic : Nat) (i : List ByteArray) (iV : ES.At W ia i) (ra : Option Addr) (rc : Nat) (r : List Rec) (rR : ER.At W ra r) (rA : RecAll W r) (v : ByteArray) (_ : v.size ≤ maxLen) :
    Calls Try.prog 3 #[.slice ia i.length ic, .slice ra r.length rc, .string v] W (RetB (.bool true) W) := by
  by_cases h : FewR i r 30
  · by_cases h2 : v.size ≤ 100
    · exact yes i r ia ra ic rc v W iV rR rA h h2
    · exact no i r ia ra ic rc v W iV rR rA (.inr ⟨h, by omega⟩)
  · exact no i r ia ra ic rc v W iV rR rA (.inl h)
end HoldMatchesReference
namespace HoldMatchesReference
set_option maxRecDepth 100000 in
theorem entry (H : Type) (enc : TypeId × Value → H) (W : World) (base : Nat) (args : Array Value) (ds : List (DataW H)) (p : List MemPlace)
    (hval : ∀ (j : Nat) t v, Try.f3.params[j]? = some t → args[j]? = some v → Value.okWide Try.prog W .any base t v)
    (hA : DataW.TrodAll enc Try.prog W 0 (fun _ => true) true Try.f3.params.toList args.toList ds p) :
    Calls Try.prog 3 args W (RetB (.bool true) W) := by
  rw [Try.params3] at hA hval
  obtain ⟨v0, vs0, d0, ds0, p0, q0, hargs, rfl, rfl, h0, r0⟩ := trodAll_cons hA
  obtain ⟨v1, vs1, d1, ds1, p1, q1, rfl, rfl, rfl, h1, r1⟩ := trodAll_cons r0
  obtain ⟨v2, vs2, d2, ds2, p2, q2, rfl, rfl, rfl, h2, r2⟩ := trodAll_cons r1
  obtain ⟨rfl, rfl, rfl⟩ := trodAll_nil r2
  obtain rfl : args = #[v0, v1, v2] := by cases args; simp_all
  obtain ⟨ia, ic, i, rfl, iV⟩ := open_strs (hval 0 22 v0 rfl rfl) h0
  obtain ⟨ra, rc, r, rfl, rR, rA⟩ := open_recs (hval 1 23 v1 rfl rfl) h1
  obtain ⟨v, rfl, rfl, rfl, vs⟩ := Go.ChangeMaps.open_string Try.underlying9 (hval 2 9 v2 rfl rfl) h2
  exact walk W ia ic i iV ra rc r rR rA v vs
end HoldMatchesReference
/-! The step from the walk to the row of HoldMatchesReference. -/
namespace HoldMatchesReference
set_option maxRecDepth 100000 in
theorem lifted (os : Os) (started : os.Started) (H : Type) (enc : TypeId × Value → H) :
    ReturnsInHanded {} Try.checked os 3 .any (Rows.holdMatchesReferenceSpec.pre6 enc Try.prog Try.f3 Rows.holdMatchesReferenceRow.domain false) (Rows.holdMatchesReferenceSpec.post enc Try.prog Try.f3 false true false false) := by
  refine returnsInHanded_of_change (C := Try.checked) own started (by kernel_rfl) Try.func3
    (ChangeSpec.witness6 (enc := enc) (C := Try.checked) false ⟨#[], #[.slice none 0 0, .slice none 0 0, .string ByteArray.empty], []⟩ 8 (by kernel_rfl) (by kernel_rfl) (by kernel_rfl) (by kernel_rfl)) ?_
  intro W base args ds gs before hval0 hW hcnd _
  have hval : ∀ (j : Nat) t v, Try.f3.params[j]? = some t → args[j]? = some v → Value.okWide Try.prog W .any base t v := hval0
  have hW' := hW
  obtain ⟨p, q, hA0, hV, rfl, hfz, hnd⟩ := hW
  have hA : DataW.TrodAll enc Try.prog W 0 (fun _ => true) true Try.f3.params.toList args.toList ds p := hA0
  obtain ⟨rfl, rfl⟩ := trodVars_none hV
  have hlen := trodAll_len _ _ _ _ hA
  obtain ⟨d0, d1, d2, rfl⟩ : ∃ d0 d1 d2, ds = [d0, d1, d2] := by
    rw [Try.params3] at hlen
    exact list3 hlen
  refine (entry H enc W base args [d0, d1, d2] p hval hA).mono fun e W' ⟨he, bel⟩ => ?_
  subst he
  exact ⟨_, rfl, _, _, _, [], _, [], hW', trodAll_mk1 (shut_bool Try.underlying4 _), readback laidOut _ _ _ _ (by rw [Try.params3]; exact of_decide_eq_true (by kernel_rfl)) hA bel, rfl, bel.frame _, fun h => by cases h⟩

theorem over : Rows.holdMatchesReferenceRow.holds Try.pinned (OpenSpec.ofChange Rows.holdMatchesReferenceSpec) :=
  OpenClaim.holds_of_wide 3 Try.f3 rfl rfl rfl rfl rfl rfl rfl ⟨rfl, rfl, rfl, rfl, rfl⟩ rfl rfl rfl rfl rfl (by kernel_rfl) Try.func3 (by kernel_rfl)
    (of_decide_eq_true (by kernel_rfl)) (by unfold Func.isWrapper; first | (rw [if_pos (by decide +kernel)]; kernel_rfl) | (rw [if_neg (by decide +kernel)]; exact ⟨rfl, rfl⟩))
    (fun os started H enc _ => lifted os started H enc)

/-- THE STATEMENT -/
theorem proved : Rows.HoldMatchesReferenceSaid := over
end HoldMatchesReference
#print axioms HoldMatchesReference.proved
end Go.Proofs.Ytgoomcnaemfjcaa
