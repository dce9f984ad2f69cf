

/- Lists of holds; Same. -/
import Derived.Test.YtgoomcnaemfjcaaHldB
import Derived.Test.YtgoomcnaemfjcaaEl
namespace Go.Proofs.Ytgoomcnaemfjcaa
open Go.RowKit

abbrev HA := Hd × (Option Addr × Nat × Option Addr × Nat)
abbrev haC (x : HA) : List Value := [.string x.1.id, .string x.1.veh, .slice x.2.1 x.1.mem.length x.2.2.1, .slice x.2.2.2.1 x.1.back.length x.2.2.2.2]
abbrev haV (x : HA) : Value := hdV x.1 x.2.1 x.2.2.1 x.2.2.2.1 x.2.2.2.2
theorem ha_one (x : HA) : ∀ u ∈ haC x, u.oneCell' = true := fun u hu => by
  simp only [haC, List.mem_cons, List.not_mem_nil, or_false] at hu
  rcases hu with rfl | rfl | rfl | rfl <;> rfl
def EH : El HA := ⟨31, 26, 4, 80, .agg #[.string ⟨#[]⟩, .string ⟨#[]⟩, .slice none 0 0, .slice none 0 0], haC, Try.underlying26, by kernel_rfl, rfl, by decide, by decide, fun _ => rfl, ha_one⟩
def EI : El Int := ⟨3, 29, 1, 8, .int .i64 0, fun x => [.int .i64 x], Try.underlying29, by kernel_rfl, rfl, by decide, by decide, fun _ => rfl, fun x u hu => by simp at hu; subst hu; rfl⟩
def ES : El ByteArray := ⟨9, 22, 1, 16, .string ⟨#[]⟩, fun x => [.string x], Try.underlying22, by kernel_rfl, rfl, by decide, by decide, fun _ => rfl, fun x u hu => by simp at hu; subst hu; rfl⟩
/-- pointers to holds, by their blocks -/
def EP : El Nat := ⟨62, 61, 1, 8, .pointer none, fun b => [.pointer (some ⟨b, 0, none⟩)], Try.underlying61, by kernel_rfl, rfl, by decide, by decide, fun _ => rfl, fun x u hu => by simp at hu; subst hu; rfl⟩
theorem Ints.el {w : World} {a : Option Addr} {l : List Int} (h : Ints w a l) : EI.At w a l := fun j u hu => by
  have hj : j < l.length * 1 := by have := (List.getElem?_eq_some_iff.1 hu).1; rwa [EI.flen] at this
  have e := EI.fat l j (by omega) 0 (by decide)
  rw [show j * EI.S + 0 = j by show j * 1 + 0 = j; omega, hu] at e
  obtain ⟨b, off, e1, hc⟩ := h j (by omega)
  refine ⟨b, off, e1, ?_⟩
  rw [hc, ig_lt (by omega)]
  exact e.symm
theorem El.At.ints {w : World} {a : Option Addr} {l : List Int} (h : EI.At w a l) : Ints w a l := fun j hj => by
  have e := EI.fat l j hj 0 (by decide)
  rw [show j * EI.S + 0 = j by show j * 1 + 0 = j; omega] at e
  obtain ⟨b, off, e1, hc⟩ := h j _ e
  exact ⟨b, off, e1, by rw [hc, ig_lt hj]⟩
def HAll (w : World) (L : List HA) : Prop := ∀ x ∈ L, HdAt w x.1 x.2.1 x.2.2.2.1
theorem HAll.later {w w1 : World} {L : List HA} (h : HAll w L) (hb : Below w.heap.size w w1) : HAll w1 L := fun x hx => (h x hx).later hb
structure HdC (w : World) (b o : Nat) (x : HA) : Prop where
  c0 : w.cell? ⟨b, o, none⟩ = some (.string x.1.id)
  c1 : w.cell? ⟨b, o + 1, none⟩ = some (.string x.1.veh)
  c2 : w.cell? ⟨b, o + 2, none⟩ = some (.slice x.2.1 x.1.mem.length x.2.2.1)
  c3 : w.cell? ⟨b, o + 3, none⟩ = some (.slice x.2.2.2.1 x.1.back.length x.2.2.2.2)
theorem HdC.later {w w1 : World} {b o : Nat} {x : HA} (h : HdC w b o x) (hb : Below w.heap.size w w1) : HdC w1 b o x := ⟨cell_later hb h.c0, cell_later hb h.c1, cell_later hb h.c2, cell_later hb h.c3⟩
theorem hd_cells {w : World} {b off : Nat} {L : List HA} (h : EH.At w (some ⟨b, off, none⟩) L) {k : Nat} (hk : k < L.length) : HdC w b (off + k * 4) L[k] :=
  have h := h.range hk
  ⟨h 0 _ rfl, h 1 _ rfl, h 2 _ rfl, h 3 _ rfl⟩
theorem str_eq {a b : ByteArray} : (a.toList == b.toList) = decide (a = b) := by
  by_cases h : a = b
  · subst h; simp
  · rw [decide_eq_false h]
    simp only [beq_eq_false_iff_ne, ne_eq]
    intro e
    apply h
    have : ∀ c : ByteArray, c = ⟨c.toList.toArray⟩ := fun c => by
      cases c with
      | mk d => simp [ByteArray.toList_eq]
    rw [this a, this b, e]
/-- two lists of holds that read alike -/
noncomputable def sameB (A B : List HA) : Bool := @decide (A.map (·.1) = B.map (·.1)) (Classical.propDecidable _)
theorem sameB_yes {A B : List HA} (h : A.map (·.1) = B.map (·.1)) : sameB A B = true := @decide_eq_true _ (Classical.propDecidable _) h
theorem sameB_no {A B : List HA} (h : ¬ A.map (·.1) = B.map (·.1)) : sameB A B = false := @decide_eq_false _ (Classical.propDecidable _) h
theorem same_at {A B : List HA} (h : A.map (·.1) = B.map (·.1)) {i : Nat} (h1 : i < A.length) (h2 : i < B.length) : A[i].1 = B[i].1 := by
  have : (A.map (·.1))[i]'(by simpa using h1) = (B.map (·.1))[i]'(by simpa using h2) := by simp only [h]
  simpa using this
theorem Hd.ext' {h k : Hd} (h1 : h.id = k.id) (h2 : h.veh = k.veh) (h3 : h.mem = k.mem) (h4 : h.back = k.back) : h = k := by
  cases h; cases k; simp_all
set_option maxRecDepth 100000 in
set_option maxHeartbeats 4000000 in
theorem same_any (A B : List HA) (a b : Option Addr) (c d : Nat) (w : World) (hA : EH.At w a A) (hB : EH.At w b B) (hAA : HAll w A) (hBB : HAll w B) (hl : A.length < 9223372036854775808) :
    Calls Try.prog 15 #[.slice a A.length c, .slice b B.length d] w (RetB (.bool (sameB A B)) w) := by
  by_cases hlm : A.length = B.length
  · obtain ⟨n, hn⟩ : ∃ n, n = A.length := ⟨_, rfl⟩
    have HN := Lib.hid hn
    have HM := Lib.hid (hn.trans hlm)
    have HA := Lib.hid hA
    have HB := Lib.hid hB
    have HAA := Lib.hid hAA
    have HBB := Lib.hid hBB
    rw [← hlm, ← hn]
    have hn64 : n < 9223372036854775808 := by omega
    clear hlm hn hl hA hB hAA hBB
    have e0 : ((n : Int) == (n : Int)) = true := by simp
    go_enter Try.func15, Try.ntmps15
    go_wp2_with fail
    go_loopg [5] (n + 1) (fun k v wr => ∃ i : Nat, i ≤ n ∧ k + i = n + 1 ∧ v = .int .i64 i ∧ Below w.heap.size w wr ∧ ∀ r (h1 : r < A.length) (h2 : r < B.length), r < i → A[r].1 = B[r].1)
    case atStart => exact ⟨0, by omega, by omega, rfl, Below.refl _ _, fun r _ _ hr => absurd hr (by omega)⟩
    case round =>
      obtain ⟨i, hi, hki, rfl, hbr, hall⟩ := hrel
      have HAL := Lib.hid hall
      have HBR := Lib.hid hbr
      clear hall
      by_cases hlt : i < n
      · have hA1 : i < A.length := by have := HN.out; omega
        have hB1 : i < B.length := by have := HM.out; omega
        have ha := HA.out.later hbr
        have hb := HB.out.later hbr
        obtain ⟨b1, o1, rfl, _⟩ := ha.head (by omega)
        obtain ⟨b2, o2, rfl, _⟩ := hb.head (by omega)
        have hc1 := hd_cells ha hA1
        have hc2 := hd_cells hb hB1
        have hx1 := HAA.out _ (List.getElem_mem hA1)
        have hy1 := HBB.out _ (List.getElem_mem hB1)
        obtain ⟨x, hx⟩ : ∃ x, x = A[i] := ⟨_, rfl⟩
        obtain ⟨y, hy⟩ : ∃ y, y = B[i] := ⟨_, rfl⟩
        rw [← hx] at hc1 hx1
        rw [← hy] at hc2 hy1
        have HXE := Lib.hid hx
        have HYE := Lib.hid hy
        have HX1 := Lib.hid (hx1.later hbr)
        have HY1 := Lib.hid (hy1.later hbr)
        obtain ⟨c0, c1, c2, c3⟩ := hc1
        obtain ⟨d0, d1, d2, d3⟩ := hc2
        have HIM := Lib.hid (show ∀ wy, HdAt wy x.1 x.2.1 x.2.2.2.1 → HdAt wy y.1 y.2.1 y.2.2.2.1 → Calls Try.prog 27 #[.slice x.2.1 x.1.mem.length x.2.2.1, .slice y.2.1 y.1.mem.length y.2.2.1] wy (RetB (.bool (decide (x.1.mem = y.1.mem))) wy) from fun wy h1 h2 => ints_any _ _ _ _ _ _ wy h1.m h2.m h1.ml)
        have HIB := Lib.hid (show ∀ wy, HdAt wy x.1 x.2.1 x.2.2.2.1 → HdAt wy y.1 y.2.1 y.2.2.2.1 → Calls Try.prog 27 #[.slice x.2.2.2.1 x.1.back.length x.2.2.2.2, .slice y.2.2.2.1 y.1.back.length y.2.2.2.2] wy (RetB (.bool (decide (x.1.back = y.1.back))) wy) from fun wy h1 h2 => ints_any _ _ _ _ _ _ wy h1.b h2.b h1.bl)
        clear hx hy hx1 hy1 ha hb hbr
        have n1 : (i : Int) < (n : Int) := by omega
        have n0 : (0 : Int) ≤ (i : Int) := by omega
        have hS : ∀ wy : World, Below wr.heap.size wr wy → (wy.cell? ⟨b1, o1 + i * 4, none⟩ = some (.string x.1.id) ∧ wy.cell? ⟨b1, o1 + i * 4 + 1, none⟩ = some (.string x.1.veh) ∧ wy.cell? ⟨b1, o1 + i * 4 + 2, none⟩ = some (.slice x.2.1 x.1.mem.length x.2.2.1) ∧ wy.cell? ⟨b1, o1 + i * 4 + 3, none⟩ = some (.slice x.2.2.2.1 x.1.back.length x.2.2.2.2) ∧ wy.cell? ⟨b2, o2 + i * 4, none⟩ = some (.string y.1.id) ∧ wy.cell? ⟨b2, o2 + i * 4 + 1, none⟩ = some (.string y.1.veh) ∧ wy.cell? ⟨b2, o2 + i * 4 + 2, none⟩ = some (.slice y.2.1 y.1.mem.length y.2.2.1) ∧ wy.cell? ⟨b2, o2 + i * 4 + 3, none⟩ = some (.slice y.2.2.2.1 y.1.back.length y.2.2.2.2)) ∧ HdAt wy x.1 x.2.1 x.2.2.2.1 ∧ HdAt wy y.1 y.2.1 y.2.2.2.1 := fun wy hy => ⟨⟨cell_later hy c0, cell_later hy c1, cell_later hy c2, cell_later hy c3, cell_later hy d0, cell_later hy d1, cell_later hy d2, cell_later hy d3⟩, HX1.out.later hy, HY1.out.later hy⟩
        cases e1 : (x.1.id.toList == y.1.id.toList)
        · have h1 : ¬ x.1.id = y.1.id := of_decide_eq_false (str_eq.symm.trans e1)
          have H1 := Lib.hid h1
          clear h1
          go_wp2_with fail
          refine wp_flow_s [] [] (by kernel_rfl) (by kernel_rfl) (by kernel_rfl) ?_
          repeat (first | ((with_reducible refine Flow.pure hS StayG.nil (v := ?_) ?_ ?_ ?_ ?_); rotate_left 1; (focus kernel_rfl); (focus (intro _; rfl)); (focus (intro β wx hSw; (try dsimp only at hSw); go_simp; (try with_reducible rfl); done)); (try simp only [Act.put, List.setIfInBounds_toArray, List.set_cons_zero, List.set_cons_succ, Nat.reduceAdd])) | ((with_reducible refine Flow.skip StayG.nil ?_ ?_ ?_); (focus kernel_rfl); (focus (intro _; rfl)); (try simp only [Act.put, List.setIfInBounds_toArray, List.set_cons_zero, List.set_cons_succ, Nat.reduceAdd])))
          (((with_reducible refine Flow.stop ?_); dsimp only; intro β w8 hI8); have HB8 := Lib.hid (HBR.out.trans (hI8.below.mono HBR.out.size)); clear hS hI8 c0 c1 c2 c3 d0 d1 d2 d3)
          (have HD := Lib.hid (show sameB A B = false from sameB_no fun e => by have e := same_at e hA1 hB1; rw [← HXE.out, ← HYE.out] at e; exact H1.out (by rw [e])); go_wp2_with fail; go_ret; exact retB (vbool HD.out.symm) HB8.out)
        · have H1 := Lib.hid (show x.1.id = y.1.id from of_decide_eq_true (str_eq.symm.trans e1))
          cases e2 : (x.1.veh.toList == y.1.veh.toList)
          · have h2 : ¬ x.1.veh = y.1.veh := of_decide_eq_false (str_eq.symm.trans e2)
            have H2 := Lib.hid h2
            clear h2
            go_wp2_with fail
            refine wp_flow_s [] [] (by kernel_rfl) (by kernel_rfl) (by kernel_rfl) ?_
            repeat (first | ((with_reducible refine Flow.pure hS StayG.nil (v := ?_) ?_ ?_ ?_ ?_); rotate_left 1; (focus kernel_rfl); (focus (intro _; rfl)); (focus (intro β wx hSw; (try dsimp only at hSw); go_simp; (try with_reducible rfl); done)); (try simp only [Act.put, List.setIfInBounds_toArray, List.set_cons_zero, List.set_cons_succ, Nat.reduceAdd])) | ((with_reducible refine Flow.skip StayG.nil ?_ ?_ ?_); (focus kernel_rfl); (focus (intro _; rfl)); (try simp only [Act.put, List.setIfInBounds_toArray, List.set_cons_zero, List.set_cons_succ, Nat.reduceAdd])))
            (((with_reducible refine Flow.stop ?_); dsimp only; intro β w8 hI8); have HB8 := Lib.hid (HBR.out.trans (hI8.below.mono HBR.out.size)); clear hS hI8 c0 c1 c2 c3 d0 d1 d2 d3)
            (have HD := Lib.hid (show sameB A B = false from sameB_no fun e => by have e := same_at e hA1 hB1; rw [← HXE.out, ← HYE.out] at e; exact H2.out (by rw [e])); go_wp2_with fail; go_ret; exact retB (vbool HD.out.symm) HB8.out)
          · have H2 := Lib.hid (show x.1.veh = y.1.veh from of_decide_eq_true (str_eq.symm.trans e2))
            cases e3 : decide (x.1.mem = y.1.mem)
            · rw [e3] at HIM
              have H3 := Lib.hid (of_decide_eq_false e3)
              clear e3
              go_wp2_with fail
              refine wp_flow_s [] [] (by kernel_rfl) (by kernel_rfl) (by kernel_rfl) ?_
              repeat (first | ((with_reducible refine Flow.pure hS StayG.nil (v := ?_) ?_ ?_ ?_ ?_); rotate_left 1; (focus kernel_rfl); (focus (intro _; rfl)); (focus (intro β wx hSw; (try dsimp only at hSw); go_simp; (try with_reducible rfl); done)); (try simp only [Act.put, List.setIfInBounds_toArray, List.set_cons_zero, List.set_cons_succ, Nat.reduceAdd])) | ((with_reducible refine Flow.skip StayG.nil ?_ ?_ ?_); (focus kernel_rfl); (focus (intro _; rfl)); (try simp only [Act.put, List.setIfInBounds_toArray, List.set_cons_zero, List.set_cons_succ, Nat.reduceAdd])))
              ((with_reducible refine Flow.call hS StayG.nil (v := ?_) ?_ ?_ ?_ ?_); rotate_left 1; (focus kernel_rfl); (focus (intro _; rfl)); (focus (intro β L wx hI hat hSw K' hK; (try dsimp only at hSw); go_simp; go_at_call 27; refine Calls.mono (HIM.out _ hSw.2.1 hSw.2.2) ?_; rintro e w' ⟨rfl, hb'⟩; exact hK.out _ hb')); (try simp only [Act.put, List.setIfInBounds_toArray, List.set_cons_zero, List.set_cons_succ, Nat.reduceAdd]))
              repeat (first | ((with_reducible refine Flow.pure hS StayG.nil (v := ?_) ?_ ?_ ?_ ?_); rotate_left 1; (focus kernel_rfl); (focus (intro _; rfl)); (focus (intro β wx hSw; (try dsimp only at hSw); go_simp; (try with_reducible rfl); done)); (try simp only [Act.put, List.setIfInBounds_toArray, List.set_cons_zero, List.set_cons_succ, Nat.reduceAdd])) | ((with_reducible refine Flow.skip StayG.nil ?_ ?_ ?_); (focus kernel_rfl); (focus (intro _; rfl)); (try simp only [Act.put, List.setIfInBounds_toArray, List.set_cons_zero, List.set_cons_succ, Nat.reduceAdd])))
              (((with_reducible refine Flow.stop ?_); dsimp only; intro β w8 hI8); have HB8 := Lib.hid (HBR.out.trans (hI8.below.mono HBR.out.size)); clear hS hI8 c0 c1 c2 c3 d0 d1 d2 d3)
              (have HD := Lib.hid (show sameB A B = false from sameB_no fun e => by have e := same_at e hA1 hB1; rw [← HXE.out, ← HYE.out] at e; exact H3.out (by rw [e])); go_wp2_with fail; go_ret; exact retB (vbool HD.out.symm) HB8.out)
            · rw [e3] at HIM
              have H3 := Lib.hid (of_decide_eq_true e3)
              clear e3
              cases e4 : decide (x.1.back = y.1.back)
              · rw [e4] at HIB
                have H4 := Lib.hid (of_decide_eq_false e4)
                clear e4
                go_wp2_with fail
                refine wp_flow_s [] [] (by kernel_rfl) (by kernel_rfl) (by kernel_rfl) ?_
                repeat (first | ((with_reducible refine Flow.pure hS StayG.nil (v := ?_) ?_ ?_ ?_ ?_); rotate_left 1; (focus kernel_rfl); (focus (intro _; rfl)); (focus (intro β wx hSw; (try dsimp only at hSw); go_simp; (try with_reducible rfl); done)); (try simp only [Act.put, List.setIfInBounds_toArray, List.set_cons_zero, List.set_cons_succ, Nat.reduceAdd])) | ((with_reducible refine Flow.skip StayG.nil ?_ ?_ ?_); (focus kernel_rfl); (focus (intro _; rfl)); (try simp only [Act.put, List.setIfInBounds_toArray, List.set_cons_zero, List.set_cons_succ, Nat.reduceAdd])))
                ((with_reducible refine Flow.call hS StayG.nil (v := ?_) ?_ ?_ ?_ ?_); rotate_left 1; (focus kernel_rfl); (focus (intro _; rfl)); (focus (intro β L wx hI hat hSw K' hK; (try dsimp only at hSw); go_simp; go_at_call 27; refine Calls.mono (HIM.out _ hSw.2.1 hSw.2.2) ?_; rintro e w' ⟨rfl, hb'⟩; exact hK.out _ hb')); (try simp only [Act.put, List.setIfInBounds_toArray, List.set_cons_zero, List.set_cons_succ, Nat.reduceAdd]))
                repeat (first | ((with_reducible refine Flow.pure hS StayG.nil (v := ?_) ?_ ?_ ?_ ?_); rotate_left 1; (focus kernel_rfl); (focus (intro _; rfl)); (focus (intro β wx hSw; (try dsimp only at hSw); go_simp; (try with_reducible rfl); done)); (try simp only [Act.put, List.setIfInBounds_toArray, List.set_cons_zero, List.set_cons_succ, Nat.reduceAdd])) | ((with_reducible refine Flow.skip StayG.nil ?_ ?_ ?_); (focus kernel_rfl); (focus (intro _; rfl)); (try simp only [Act.put, List.setIfInBounds_toArray, List.set_cons_zero, List.set_cons_succ, Nat.reduceAdd])))
                ((with_reducible refine Flow.call hS StayG.nil (v := ?_) ?_ ?_ ?_ ?_); rotate_left 1; (focus kernel_rfl); (focus (intro _; rfl)); (focus (intro β L wx hI hat hSw K' hK; (try dsimp only at hSw); go_simp; go_at_call 27; refine Calls.mono (HIB.out _ hSw.2.1 hSw.2.2) ?_; rintro e w' ⟨rfl, hb'⟩; exact hK.out _ hb')); (try simp only [Act.put, List.setIfInBounds_toArray, List.set_cons_zero, List.set_cons_succ, Nat.reduceAdd]))
                repeat (first | ((with_reducible refine Flow.pure hS StayG.nil (v := ?_) ?_ ?_ ?_ ?_); rotate_left 1; (focus kernel_rfl); (focus (intro _; rfl)); (focus (intro β wx hSw; (try dsimp only at hSw); go_simp; (try with_reducible rfl); done)); (try simp only [Act.put, List.setIfInBounds_toArray, List.set_cons_zero, List.set_cons_succ, Nat.reduceAdd])) | ((with_reducible refine Flow.skip StayG.nil ?_ ?_ ?_); (focus kernel_rfl); (focus (intro _; rfl)); (try simp only [Act.put, List.setIfInBounds_toArray, List.set_cons_zero, List.set_cons_succ, Nat.reduceAdd])))
                (((with_reducible refine Flow.stop ?_); dsimp only; intro β w8 hI8); have HB8 := Lib.hid (HBR.out.trans (hI8.below.mono HBR.out.size)); clear hS hI8 c0 c1 c2 c3 d0 d1 d2 d3)
                (have HD := Lib.hid (show sameB A B = false from sameB_no fun e => by have e := same_at e hA1 hB1; rw [← HXE.out, ← HYE.out] at e; exact H4.out (by rw [e])); go_wp2_with fail; go_ret; exact retB (vbool HD.out.symm) HB8.out)
              · rw [e4] at HIB
                have H4 := Lib.hid (of_decide_eq_true e4)
                clear e4
                go_wp2_with fail
                refine wp_flow_s [] [] (by kernel_rfl) (by kernel_rfl) (by kernel_rfl) ?_
                repeat (first | ((with_reducible refine Flow.pure hS StayG.nil (v := ?_) ?_ ?_ ?_ ?_); rotate_left 1; (focus kernel_rfl); (focus (intro _; rfl)); (focus (intro β wx hSw; (try dsimp only at hSw); go_simp; (try with_reducible rfl); done)); (try simp only [Act.put, List.setIfInBounds_toArray, List.set_cons_zero, List.set_cons_succ, Nat.reduceAdd])) | ((with_reducible refine Flow.skip StayG.nil ?_ ?_ ?_); (focus kernel_rfl); (focus (intro _; rfl)); (try simp only [Act.put, List.setIfInBounds_toArray, List.set_cons_zero, List.set_cons_succ, Nat.reduceAdd])))
                ((with_reducible refine Flow.call hS StayG.nil (v := ?_) ?_ ?_ ?_ ?_); rotate_left 1; (focus kernel_rfl); (focus (intro _; rfl)); (focus (intro β L wx hI hat hSw K' hK; (try dsimp only at hSw); go_simp; go_at_call 27; refine Calls.mono (HIM.out _ hSw.2.1 hSw.2.2) ?_; rintro e w' ⟨rfl, hb'⟩; exact hK.out _ hb')); (try simp only [Act.put, List.setIfInBounds_toArray, List.set_cons_zero, List.set_cons_succ, Nat.reduceAdd]))
                repeat (first | ((with_reducible refine Flow.pure hS StayG.nil (v := ?_) ?_ ?_ ?_ ?_); rotate_left 1; (focus kernel_rfl); (focus (intro _; rfl)); (focus (intro β wx hSw; (try dsimp only at hSw); go_simp; (try with_reducible rfl); done)); (try simp only [Act.put, List.setIfInBounds_toArray, List.set_cons_zero, List.set_cons_succ, Nat.reduceAdd])) | ((with_reducible refine Flow.skip StayG.nil ?_ ?_ ?_); (focus kernel_rfl); (focus (intro _; rfl)); (try simp only [Act.put, List.setIfInBounds_toArray, List.set_cons_zero, List.set_cons_succ, Nat.reduceAdd])))
                ((with_reducible refine Flow.call hS StayG.nil (v := ?_) ?_ ?_ ?_ ?_); rotate_left 1; (focus kernel_rfl); (focus (intro _; rfl)); (focus (intro β L wx hI hat hSw K' hK; (try dsimp only at hSw); go_simp; go_at_call 27; refine Calls.mono (HIB.out _ hSw.2.1 hSw.2.2) ?_; rintro e w' ⟨rfl, hb'⟩; exact hK.out _ hb')); (try simp only [Act.put, List.setIfInBounds_toArray, List.set_cons_zero, List.set_cons_succ, Nat.reduceAdd]))
                repeat (first | ((with_reducible refine Flow.pure hS StayG.nil (v := ?_) ?_ ?_ ?_ ?_); rotate_left 1; (focus kernel_rfl); (focus (intro _; rfl)); (focus (intro β wx hSw; (try dsimp only at hSw); go_simp; (try with_reducible rfl); done)); (try simp only [Act.put, List.setIfInBounds_toArray, List.set_cons_zero, List.set_cons_succ, Nat.reduceAdd])) | ((with_reducible refine Flow.skip StayG.nil ?_ ?_ ?_); (focus kernel_rfl); (focus (intro _; rfl)); (try simp only [Act.put, List.setIfInBounds_toArray, List.set_cons_zero, List.set_cons_succ, Nat.reduceAdd])))
                (((with_reducible refine Flow.stop ?_); dsimp only; intro β w8 hI8); have HB8 := Lib.hid (HBR.out.trans (hI8.below.mono HBR.out.size)); clear hS hI8 c0 c1 c2 c3 d0 d1 d2 d3)
                go_wp2_with fail
                go_roundg (n - i)
                case measure => omega
                case rel => exact ⟨i + 1, by omega, by omega, by go_num, HB8.out, fun r h1 h2 hr => by
                  rcases Nat.lt_succ_iff_lt_or_eq.1 hr with h | h
                  · exact HAL.out r h1 h2 h
                  · subst h; rw [← HXE.out, ← HYE.out]; exact Hd.ext' H1.out H2.out H3.out H4.out⟩
      · obtain rfl : i = n := by omega
        have HD := Lib.hid (show sameB A B = true from sameB_yes (List.ext_getElem (by simp only [List.length_map]; have := HN.out; have := HM.out; omega) fun j h1 h2 => by
          simp only [List.length_map] at h1 h2
          simpa using HAL.out j h1 h2 (by rw [HN.out]; exact h1)))
        go_wp2_with fail
        go_ret
        exact retB (vbool HD.out.symm) HBR.out
  · have HD := Lib.hid (show sameB A B = false from sameB_no fun e => hlm (by have := congrArg List.length e; simpa using this))
    have e0 : ((A.length : Int) == (B.length : Int)) = false := by simp; omega
    have e0' : (A.length == B.length) = false := by simpa using hlm
    clear hlm
    go_enter Try.func15, Try.ntmps15
    go_wp2_with fail
    go_ret
    exact retB (vbool HD.out.symm) (Below.refl _ _)
end Go.Proofs.Ytgoomcnaemfjcaa
