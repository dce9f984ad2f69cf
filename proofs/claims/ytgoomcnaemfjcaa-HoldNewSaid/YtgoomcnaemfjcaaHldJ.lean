

/- The reference: made, On. -/
import Derived.Test.YtgoomcnaemfjcaaHldF
namespace Go.Proofs.Ytgoomcnaemfjcaa
open Go.RowKit

theorem El.at_lit' {α : Type} (E : El α) (w : World) (l : List α) (cs : Array Value) (T : TypeId) (hc : cs = (l.flatMap E.cf).toArray) : E.At (w.alloc (.cells cs T)) (some ⟨w.heap.size, 0, none⟩) l := fun j u hu => by
  subst hc
  refine ⟨w.heap.size, 0, rfl, ?_⟩
  rw [Nat.zero_add]
  exact (BoxAt.new w (l.flatMap E.cf) T j u hu).1
/-- this pair could make a hold -/
def mkP (x : ByteArray × Rec) : Prop := x.2.kind = 5 ∧ x.2.members ≠ []
instance (x : ByteArray × Rec) : Decidable (mkP x) := by unfold mkP; infer_instance
/-- the pair i makes a hold: none before it made one of the same Id -/
def MkAt (z : List (ByteArray × Rec)) (i : Nat) : Prop := ∃ h : i < z.length, mkP z[i] ∧ ∀ j (hj : j < i), mkP (z[j]'(by omega)) → (z[j]'(by omega)).1 ≠ z[i].1
noncomputable def mkB (z : List (ByteArray × Rec)) (i : Nat) : Bool := @decide (MkAt z i) (Classical.propDecidable _)
theorem mkB_yes {z : List (ByteArray × Rec)} {i : Nat} (h : MkAt z i) : mkB z i = true := @decide_eq_true _ (Classical.propDecidable _) h
theorem mkB_no {z : List (ByteArray × Rec)} {i : Nat} (h : ¬ MkAt z i) : mkB z i = false := @decide_eq_false _ (Classical.propDecidable _) h
set_option maxRecDepth 100000 in
set_option maxHeartbeats 4000000 in
theorem rmade_any (ids : List ByteArray) (l : List Rec) (ia ra : Option Addr) (ic rc n i : Nat) (w : World) (hlen : ids.length = l.length) (hn : n = l.length) (hn30 : n ≤ 1000) (hI : ES.At w ia ids) (hR : ER.At w ra l) (hA : RecAll w l) (hi : i < n) :
    Calls Try.prog 24 #[.slice ia n ic, .slice ra n rc, .int .i64 i] w (RetB (.bool (mkB (ids.zip l) i)) w) := by
  have hiL : i < l.length := by omega
  have hiI : i < ids.length := by omega
  have hz : ∀ j (hj : j < (ids.zip l).length) (h1 : j < ids.length) (h2 : j < l.length), (ids.zip l)[j] = (ids[j], l[j]) := fun j hj h1 h2 => by simp
  have hzl : (ids.zip l).length = n := by rw [List.length_zip]; omega
  obtain ⟨ib, io, rfl, _⟩ := hI.head (by omega)
  obtain ⟨rb, ro, rfl, _⟩ := hR.head (by omega)
  have hsc := str_cell hI hiI
  obtain ⟨k0, _, _, _, k8⟩ := rc_cells hR hA hiL
  have hiz : i < (ids.zip l).length := by omega
  have hzi := hz i hiz hiI hiL
  obtain ⟨r, hr⟩ : ∃ r, r = l[i] := ⟨_, rfl⟩
  obtain ⟨s, hs⟩ : ∃ s, s = ids[i] := ⟨_, rfl⟩
  rw [← hr] at k0 k8 hzi
  rw [← hs] at hsc hzi
  obtain ⟨ml, hml⟩ : ∃ ml, ml = r.members.length := ⟨_, rfl⟩
  rw [← hml] at k8
  have HML := Lib.hid hml
  have HZI := Lib.hid hzi
  have HZL := Lib.hid hzl
  have HI := Lib.hid hI
  have HR := Lib.hid hR
  have HRA := Lib.hid hA
  have HLEN := Lib.hid hlen
  have HN := Lib.hid hn
  have HZ := Lib.hid hz
  have n1 : (i : Int) < (n : Int) := by omega
  have n0 : (0 : Int) ≤ (i : Int) := by omega
  clear hr hs hml hz hzi hzl hI hR hA hlen hn
  cases e5 : (r.kind == (5 : Int))
  · have h5 : ¬ r.kind = 5 := by simpa using e5
    have HD := Lib.hid (show mkB (ids.zip l) i = false from mkB_no fun ⟨h, h1, _⟩ => by rw [HZI.out] at h1; exact h5 h1.1)
    go_enter Try.func24, Try.ntmps24
    go_wp2_with fail
    go_ret
    exact retB (vbool HD.out.symm) (Below.refl _ _)
  · have h5 : r.kind = 5 := by simpa using e5
    have H5 := Lib.hid h5
    rw [h5] at k0
    clear h5 e5
    by_cases hm0 : ml = 0
    · have HD := Lib.hid (show mkB (ids.zip l) i = false from mkB_no fun ⟨h, h1, _⟩ => by
        rw [HZI.out] at h1
        have := HML.out
        exact h1.2 (List.eq_nil_of_length_eq_zero (by show r.members.length = 0; omega)))
      subst hm0
      go_enter Try.func24, Try.ntmps24
      go_wp2_with fail
      go_ret
      exact retB (vbool HD.out.symm) (Below.refl _ _)
    · have d1 : (ml == 0) = false := by simpa using hm0
      have d2 : ((ml : Int) == 0) = false := by simpa using hm0
      have HMI := Lib.hid (show mkP (s, r) from ⟨H5.out, fun e => hm0 (by rw [HML.out, e]; rfl)⟩)
      clear hm0
      go_enter Try.func24, Try.ntmps24
      go_wp2_with fail
      go_loopg [7] (i + 1) (fun g v7 wr => ∃ j : Nat, j ≤ i ∧ g + j = i + 1 ∧ v7 = .int .i64 j ∧ Below w.heap.size w wr ∧ ∀ p (h1 : p < l.length) (h2 : p < ids.length), p < j → mkP (ids[p], l[p]) → ids[p] ≠ s)
      case atStart => exact ⟨0, by omega, by omega, rfl, Below.refl _ _, fun p _ _ hp => absurd hp (by omega)⟩
      case round =>
        obtain ⟨j, hj, hgj, rfl, hbr, hall⟩ := hrel
        have HBR := Lib.hid hbr
        have HAL := Lib.hid hall
        have hsr := cell_later hbr hsc
        clear hall
        by_cases hlt : j < i
        · have hjL : j < l.length := by omega
          have hjI : j < ids.length := by have := HLEN.out; omega
          have hsj := str_cell (HI.out.later hbr) hjI
          obtain ⟨m0, _, _, _, m8⟩ := rc_cells (HR.out.later hbr) (HRA.out.later hbr) hjL
          obtain ⟨rj, hrj⟩ : ∃ r, r = l[j] := ⟨_, rfl⟩
          obtain ⟨sj, hsje⟩ : ∃ s, s = ids[j] := ⟨_, rfl⟩
          rw [← hrj] at m0 m8
          rw [← hsje] at hsj
          obtain ⟨mj, hmj⟩ : ∃ ml, ml = rj.members.length := ⟨_, rfl⟩
          rw [← hmj] at m8
          have HRJ := Lib.hid hrj
          have HSJ := Lib.hid hsje
          have HMJ := Lib.hid hmj
          have p1 : (j : Int) < (n : Int) := by omega
          have p0 : (0 : Int) ≤ (j : Int) := by omega
          have hS : ∀ wy : World, Below wr.heap.size wr wy → wy.cell? ⟨ib, io + j, none⟩ = some (.string sj) ∧ wy.cell? ⟨ib, io + i, none⟩ = some (.string s) ∧ wy.cell? ⟨rb, ro + j * 36, none⟩ = some (.int .i64 rj.kind) ∧ wy.cell? ⟨rb, ro + j * 36 + 8, none⟩ = some (.slice rj.ma mj rj.mc) := fun wy hy => ⟨cell_later hy hsj, cell_later hy hsr, cell_later hy m0, cell_later hy m8⟩
          have step : ∀ (h : mkP (sj, rj) → sj ≠ s) p (h1 : p < l.length) (h2 : p < ids.length), p < j + 1 → mkP (ids[p], l[p]) → ids[p] ≠ s := fun h p h1 h2 hp hm => by
            rcases Nat.lt_succ_iff_lt_or_eq.1 hp with h3 | h3
            · exact HAL.out p h1 h2 h3 hm
            · subst h3
              rw [← HSJ.out] at hm ⊢
              rw [← HRJ.out] at hm
              exact h hm
          have HSTEP := Lib.hid step
          clear hrj hsje hmj step hbr hsr
          cases e6 : (rj.kind == (5 : Int))
          · have h6 : ¬ rj.kind = 5 := by simpa using e6
            have HX := Lib.hid (show mkP (sj, rj) → sj ≠ s from fun h => absurd h.1 h6)
            go_wp2_with fail
            refine wp_flow_s [] [] (by kernel_rfl) (by kernel_rfl) (by kernel_rfl) ?_
            repeat (first | ((with_reducible refine Flow.pure hS StayG.nil (v := ?_) ?_ ?_ ?_ ?_); rotate_left 1; (focus kernel_rfl); (focus (intro _; rfl)); (focus (intro β wx hSw; (try dsimp only at hSw); go_simp; (try with_reducible rfl); done)); (try simp only [Act.put, List.setIfInBounds_toArray, List.set_cons_zero, List.set_cons_succ, Nat.reduceAdd])) | ((with_reducible refine Flow.skip StayG.nil ?_ ?_ ?_); (focus kernel_rfl); (focus (intro _; rfl)); (try simp only [Act.put, List.setIfInBounds_toArray, List.set_cons_zero, List.set_cons_succ, Nat.reduceAdd])))
            ((with_reducible refine Flow.stop ?_); dsimp only; intro β w8 hI8)
            have HB8 := Lib.hid (HBR.out.trans (hI8.below.mono HBR.out.size))
            clear hS hI8 hsj m0 m8
            go_wp2_with fail
            go_roundg (i - j)
            case measure => omega
            case rel => exact ⟨j + 1, by omega, by omega, by go_num, HB8.out, HSTEP.out HX.out⟩
          · have h6 : rj.kind = 5 := by simpa using e6
            have H6 := Lib.hid h6
            clear h6
            by_cases hm0 : 0 < mj
            · have d3 : decide (0 < mj) = true := decide_eq_true hm0
              have HMP := Lib.hid (show mkP (sj, rj) from ⟨H6.out, fun e => by have := HMJ.out; rw [e] at this; simp at this; omega⟩)
              cases e7 : (sj.toList == s.toList)
              · have HX := Lib.hid (show mkP (sj, rj) → sj ≠ s from fun _ => of_decide_eq_false (str_eq.symm.trans e7))
                clear hm0
                go_wp2_with fail
                refine wp_flow_s [] [] (by kernel_rfl) (by kernel_rfl) (by kernel_rfl) ?_
                repeat (first | ((with_reducible refine Flow.pure hS StayG.nil (v := ?_) ?_ ?_ ?_ ?_); rotate_left 1; (focus kernel_rfl); (focus (intro _; rfl)); (focus (intro β wx hSw; (try dsimp only at hSw); go_simp; (try with_reducible rfl); done)); (try simp only [Act.put, List.setIfInBounds_toArray, List.set_cons_zero, List.set_cons_succ, Nat.reduceAdd])) | ((with_reducible refine Flow.skip StayG.nil ?_ ?_ ?_); (focus kernel_rfl); (focus (intro _; rfl)); (try simp only [Act.put, List.setIfInBounds_toArray, List.set_cons_zero, List.set_cons_succ, Nat.reduceAdd])))
                ((with_reducible refine Flow.stop ?_); dsimp only; intro β w8 hI8)
                have HB8 := Lib.hid (HBR.out.trans (hI8.below.mono HBR.out.size))
                clear hS hI8 hsj m0 m8
                go_wp2_with fail
                go_roundg (i - j)
                case measure => omega
                case rel => exact ⟨j + 1, by omega, by omega, by go_num, HB8.out, HSTEP.out HX.out⟩
              · have hss : sj = s := of_decide_eq_true (str_eq.symm.trans e7)
                have HD := Lib.hid (show mkB (ids.zip l) i = false from mkB_no fun ⟨h, _, h2⟩ => by
                  have h3 := h2 j hlt
                  rw [HZ.out j (by have := HZL.out; omega) hjI hjL, HZI.out, ← HSJ.out, ← HRJ.out] at h3
                  exact h3 HMP.out hss)
                clear hm0 hss
                go_wp2_with fail
                refine wp_flow_s [] [] (by kernel_rfl) (by kernel_rfl) (by kernel_rfl) ?_
                repeat (first | ((with_reducible refine Flow.pure hS StayG.nil (v := ?_) ?_ ?_ ?_ ?_); rotate_left 1; (focus kernel_rfl); (focus (intro _; rfl)); (focus (intro β wx hSw; (try dsimp only at hSw); go_simp; (try with_reducible rfl); done)); (try simp only [Act.put, List.setIfInBounds_toArray, List.set_cons_zero, List.set_cons_succ, Nat.reduceAdd])) | ((with_reducible refine Flow.skip StayG.nil ?_ ?_ ?_); (focus kernel_rfl); (focus (intro _; rfl)); (try simp only [Act.put, List.setIfInBounds_toArray, List.set_cons_zero, List.set_cons_succ, Nat.reduceAdd])))
                ((with_reducible refine Flow.stop ?_); dsimp only; intro β w8 hI8)
                have HB8 := Lib.hid (HBR.out.trans (hI8.below.mono HBR.out.size))
                clear hS hI8 hsj m0 m8
                go_wp2_with fail
                go_ret
                exact retB (vbool HD.out.symm) HB8.out
            · have d3 : decide (0 < mj) = false := decide_eq_false hm0
              have HX := Lib.hid (show mkP (sj, rj) → sj ≠ s from fun h => absurd (List.eq_nil_of_length_eq_zero (by have := HMJ.out; show rj.members.length = 0; omega)) h.2)
              clear hm0
              go_wp2_with fail
              refine wp_flow_s [] [] (by kernel_rfl) (by kernel_rfl) (by kernel_rfl) ?_
              repeat (first | ((with_reducible refine Flow.pure hS StayG.nil (v := ?_) ?_ ?_ ?_ ?_); rotate_left 1; (focus kernel_rfl); (focus (intro _; rfl)); (focus (intro β wx hSw; (try dsimp only at hSw); go_simp; (try with_reducible rfl); done)); (try simp only [Act.put, List.setIfInBounds_toArray, List.set_cons_zero, List.set_cons_succ, Nat.reduceAdd])) | ((with_reducible refine Flow.skip StayG.nil ?_ ?_ ?_); (focus kernel_rfl); (focus (intro _; rfl)); (try simp only [Act.put, List.setIfInBounds_toArray, List.set_cons_zero, List.set_cons_succ, Nat.reduceAdd])))
              ((with_reducible refine Flow.stop ?_); dsimp only; intro β w8 hI8)
              have HB8 := Lib.hid (HBR.out.trans (hI8.below.mono HBR.out.size))
              clear hS hI8 hsj m0 m8
              go_wp2_with fail
              go_roundg (i - j)
              case measure => omega
              case rel => exact ⟨j + 1, by omega, by omega, by go_num, HB8.out, HSTEP.out HX.out⟩
        · obtain rfl : j = i := by omega
          have HD := Lib.hid (show mkB (ids.zip l) j = true from mkB_yes ⟨by have := HZL.out; omega, by rw [HZI.out]; exact HMI.out, fun p hp hm => by
            rw [HZ.out p (by have := HZL.out; omega) (by have := HLEN.out; omega) (by omega)] at hm ⊢
            rw [HZI.out]
            exact HAL.out p (by omega) (by have := HLEN.out; omega) hp hm⟩)
          clear hbr
          go_wp2_with fail
          go_ret
          exact retB (vbool HD.out.symm) HBR.out
set_option maxRecDepth 100000 in
set_option maxHeartbeats 4000000 in
theorem ron_any (L : List HA) (veh : ByteArray) (a : Option Addr) (c : Nat) (w : World) (hA : EH.At w a L) (hL : HAll w L) (hl : L.length ≤ 100000) :
    Calls Try.prog 17 #[.slice a L.length c, .string veh] w (RetL w (onL veh L)) := by
  have HA := Lib.hid hA
  have HL := Lib.hid hL
  obtain ⟨n, hn⟩ : ∃ n, n = L.length := ⟨_, rfl⟩
  have HN := Lib.hid hn
  rw [← hn] at hl ⊢
  clear hA hL hn
  go_enter Try.func17, Try.ntmps17
  go_wp2_with fail
  go_loopg [5, 6] (n + 1) (fun k v5 v6 wr => ∃ i : Nat, i ≤ n ∧ k + i = n + 1 ∧ v6 = .int .i64 i ∧ Below w.heap.size w wr ∧ EH.Own wr w.heap.size v5 (onL veh (L.take i)))
  case atStart => exact ⟨0, by omega, by omega, rfl, Below.refl _ _, El.Own.nil _ _ _⟩
  case round =>
    obtain ⟨i, hi, hki, rfl, hbr, hown⟩ := hrel
    have HBR := Lib.hid hbr
    have HOWN := Lib.hid hown
    by_cases hlt : i < n
    · have hiL : i < L.length := by have := HN.out; omega
      have hat := HA.out.later hbr
      obtain ⟨b, off, rfl, _⟩ := hat.head (by omega)
      obtain ⟨q0, q1, q2, q3⟩ := hd_cells hat hiL
      have hx := (HL.out _ (List.getElem_mem hiL)).later hbr
      have htk : onL veh (L.take (i + 1)) = onL veh (L.take i) ++ if onB veh L[i].1 then [L[i]] else [] := by
        unfold onL
        rw [List.take_succ_eq_append_getElem hiL, List.filter_append]
        by_cases h : onB veh L[i].1 <;> simp [h]
      obtain ⟨x, hxe⟩ : ∃ x, x = L[i] := ⟨_, rfl⟩
      rw [← hxe] at q0 q1 q2 q3 hx htk
      have HX := Lib.hid hx
      have HTK := Lib.hid htk
      have HO := Lib.hid (show ∀ wy, HdAt wy x.1 x.2.1 x.2.2.2.1 → Calls Try.prog 14 #[.agg #[.string x.1.id, .string x.1.veh, .slice x.2.1 x.1.mem.length x.2.2.1, .slice x.2.2.2.1 x.1.back.length x.2.2.2.2]] wy (RetB (.bool (outB x.1)) wy) from fun wy h => rout_any x.1 _ _ _ _ wy h)
      have n1 : (i : Int) < (n : Int) := by omega
      have n0 : (0 : Int) ≤ (i : Int) := by omega
      have hKl : (onL veh (L.take i)).length ≤ 100000 := by
        have h1 := List.length_filter_le (fun x => onB veh x.1) (L.take i)
        rw [List.length_take] at h1
        unfold onL
        omega
      clear hat hx hxe htk hown hbr
      cases e1 : (x.1.veh.toList == veh.toList)
      · have h1 : ¬ x.1.veh = veh := of_decide_eq_false (str_eq.symm.trans e1)
        have HNO := Lib.hid (show onB veh x.1 = false from onB_no fun h => h1 h.1)
        clear h1
        go_wp2_with fail
        go_roundg (n - i)
        case measure => omega
        case rel => exact ⟨i + 1, by omega, by omega, by go_num, HBR.out, by rw [HTK.out, HNO.out]; simpa using HOWN.out⟩
      · have h1 : x.1.veh = veh := of_decide_eq_true (str_eq.symm.trans e1)
        have HEQ := Lib.hid (show onB veh x.1 = outB x.1 from by
          by_cases k : outH x.1
          · rw [outB_yes k, onB_yes ⟨h1, k⟩]
          · rw [outB_no k, onB_no fun h => k h.2])
        clear h1
        cases e2 : outB x.1
        · rw [e2] at HO HEQ
          clear e2
          go_wp2_with fail
          refine Calls.mono (HO.out _ HX.out) ?_
          rintro e w1 ⟨rfl, hb1⟩
          have HB1 := Lib.hid (HBR.out.trans (hb1.mono HBR.out.size))
          have HOW1 := Lib.hid (HOWN.out.later hb1)
          clear hb1
          go_wp2_with fail
          go_roundg (n - i)
          case measure => omega
          case rel => exact ⟨i + 1, by omega, by omega, by go_num, HB1.out, by rw [HTK.out, HEQ.out]; simpa using HOW1.out⟩
        · rw [e2] at HO HEQ
          clear e2
          go_wp2_with fail
          refine Calls.mono (HO.out _ HX.out) ?_
          rintro e w1 ⟨rfl, hb1⟩
          have HB1 := Lib.hid (HBR.out.trans (hb1.mono HBR.out.size))
          have how1 := HOWN.out.later hb1
          have j0 := cell_later hb1 q0
          have j1 := cell_later hb1 q1
          have j2 := cell_later hb1 q2
          have j3 := cell_later hb1 q3
          have hbA : Below w1.heap.size w1 (w1.alloc (.cells #[.string x.1.id, .string x.1.veh, .slice x.2.1 x.1.mem.length x.2.2.1, .slice x.2.2.2.1 x.1.back.length x.2.2.2.2] 31)) := (by repeat (first | exact Below.refl _ _ | assumption | refine Below.drew ?_ | refine below_drewN ?_ _ | refine Below.alloc ?_ (by first | omega | (simp; done) | (simp; omega)) _ | refine Below.setCell ?_ (by first | omega | (simp; done) | (simp; omega)) _ | refine Below.trans ?_ (Below.mono (by assumption) (by first | omega | (simp; done) | (simp; omega)))))
          have hs1 := HB1.out.size
          obtain ⟨v2, w2, hr2, ho2, hg2, hn2⟩ := El.app (E := EH) (w1.alloc (.cells #[.string x.1.id, .string x.1.veh, .slice x.2.1 x.1.mem.length x.2.2.1, .slice x.2.2.2.1 x.1.back.length x.2.2.2.2] 31)) w.heap.size _ _ [x] (how1.later hbA) (some ⟨w1.heap.size, 0, none⟩) 1 (El.at_lit' EH w1 [x] _ 31 rfl) (by simp; omega) (by simp; omega) 26
          have HB2 := Lib.hid (show Below w.heap.size w w2 from (HB1.out.trans (hbA.mono HB1.out.size)).grown hg2 (by simp; omega) (fun g hg => (how1.lt g hg).1))
          have HR2 := Lib.hid hr2
          have HO2 := Lib.hid ho2
          clear hb1 hbA hr2 ho2 hg2 hn2 how1 q0 q1 q2 q3
          go_wp2_with (at_builtin; go_loud (refine wpList_app_eq rfl _ _ _ rfl _ _ rfl rfl HR2.out ?_))
          go_roundg (n - i)
          case measure => omega
          case rel => exact ⟨i + 1, by omega, by omega, by go_num, HB2.out, by rw [HTK.out, HEQ.out]; simpa using HO2.out⟩
    · obtain rfl : i = n := by omega
      rw [List.take_of_length_le (by have := HN.out; omega)] at hown
      obtain ⟨oa, oc, rfl, _, _, hat, _⟩ := hown.at
      have HAT := Lib.hid hat
      clear hown hat hbr
      go_wp2_with fail
      go_ret
      exact ⟨oa, oc, rfl, HAT.out, HBR.out⟩
end Go.Proofs.Ytgoomcnaemfjcaa
