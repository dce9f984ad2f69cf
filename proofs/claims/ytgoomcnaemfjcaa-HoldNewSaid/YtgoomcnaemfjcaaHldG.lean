


/- The laws' helpers: few, made, back. -/
import Derived.Test.YtgoomcnaemfjcaaHldF
namespace Go.Proofs.Ytgoomcnaemfjcaa
open Go.RowKit

theorem El.at_lit {α : Type} (E : El α) (w : World) (l : List α) (cs : Array Value) (T : TypeId) (hc : cs = (l.flatMap E.cf).toArray) : E.At (w.alloc (.cells cs T)) (some ⟨w.heap.size, 0, none⟩) l := fun j u hu => by
  subst hc
  refine ⟨w.heap.size, 0, rfl, ?_⟩
  rw [Nat.zero_add]
  exact (BoxAt.new w (l.flatMap E.cf) T j u hu).1
/-- the cells of a record that makes a hold, of one that gives back -/
abbrev madeC (veh : ByteArray) (ma : Option Addr) (n mc : Nat) : List Value := [.int .i64 5, .int .i64 0, .int .i64 0, .string ⟨#[]⟩, .int .i64 0, .string ⟨#[]⟩, .string veh, .string ⟨#[]⟩, .slice ma n mc, .slice none 0 0, .bool false, .int .i64 0, .int .i64 0, .int .i64 0, .bool false, .string ⟨#[]⟩, .string ⟨#[]⟩, .int .i64 0, .string ⟨#[]⟩, .string ⟨#[]⟩, .int .i64 0, .int .i64 0, .slice none 0 0, .string ⟨#[]⟩, .string ⟨#[]⟩, .int .i64 0, .string ⟨#[]⟩, .string ⟨#[]⟩, .int .i64 0, .int .i64 0, .string ⟨#[]⟩, .string ⟨#[]⟩, .int .i64 0, .int .i64 0, .slice none 0 0, .slice none 0 0]
abbrev backC (author : Int) (id : ByteArray) : List Value := [.int .i64 6, .int .i64 author, .int .i64 0, .string ⟨#[]⟩, .int .i64 0, .string id, .string ⟨#[]⟩, .string ⟨#[]⟩, .slice none 0 0, .slice none 0 0, .bool false, .int .i64 0, .int .i64 0, .int .i64 0, .bool false, .string ⟨#[]⟩, .string ⟨#[]⟩, .int .i64 0, .string ⟨#[]⟩, .string ⟨#[]⟩, .int .i64 0, .int .i64 0, .slice none 0 0, .string ⟨#[]⟩, .string ⟨#[]⟩, .int .i64 0, .string ⟨#[]⟩, .string ⟨#[]⟩, .int .i64 0, .int .i64 0, .string ⟨#[]⟩, .string ⟨#[]⟩, .int .i64 0, .int .i64 0, .slice none 0 0, .slice none 0 0]
theorem made_one (veh : ByteArray) (ma : Option Addr) (n mc : Nat) : ∀ u ∈ madeC veh ma n mc, u.oneCell' = true := by
  intro u hu
  simp only [List.mem_cons, List.not_mem_nil, or_false] at hu
  rcases hu with rfl | rfl | rfl | rfl | rfl | rfl | rfl | rfl | rfl | rfl | rfl | rfl | rfl | rfl | rfl | rfl | rfl | rfl | rfl | rfl | rfl | rfl | rfl | rfl | rfl | rfl | rfl | rfl | rfl | rfl | rfl | rfl | rfl | rfl | rfl | rfl <;> rfl
theorem back_one (author : Int) (id : ByteArray) : ∀ u ∈ backC author id, u.oneCell' = true := by
  intro u hu
  simp only [List.mem_cons, List.not_mem_nil, or_false] at hu
  rcases hu with rfl | rfl | rfl | rfl | rfl | rfl | rfl | rfl | rfl | rfl | rfl | rfl | rfl | rfl | rfl | rfl | rfl | rfl | rfl | rfl | rfl | rfl | rfl | rfl | rfl | rfl | rfl | rfl | rfl | rfl | rfl | rfl | rfl | rfl | rfl | rfl <;> rfl
def madeR (veh : ByteArray) (l : List Int) (ma : Option Addr) (mc : Nat) : Rec := ⟨5, 0, ⟨#[]⟩, veh, l, ma, mc, madeC veh ma l.length mc, rfl, made_one _ _ _ _⟩
def backR (author : Int) (id : ByteArray) : Rec := ⟨6, author, id, ⟨#[]⟩, [], none, 0, backC author id, rfl, back_one _ _⟩
theorem madeF (veh : ByteArray) (l : List Int) (ma : Option Addr) (mc : Nat) (hl : l.length < 9223372036854775808) : RecF (madeR veh l ma mc) := ⟨rfl, rfl, rfl, rfl, rfl, hl⟩
theorem backF (author : Int) (id : ByteArray) : RecF (backR author id) := ⟨rfl, rfl, rfl, rfl, rfl, by show 0 < _; omega⟩
theorem results_cell {P : Program} {fn : Func} {a : Nat} {t : TypeId} (h : fn.results = #[.cell a t]) {tmps : Array Value} {p : Addr} (hp : tmps.getD a undef = .pointer (some p)) {v : Value} {w : World} (hl : (loadVar t p).run P w = .ok v w) : (results fn tmps).run P w = .ok v w := by
  unfold results
  rw [h]
  simp only [hp, asAddr, Array.mapM_eq_mapM_toList, List.mapM_cons, List.mapM_nil]
  simp [hl]
set_option maxRecDepth 100000 in
theorem made_any (veh : ByteArray) (ma : Option Addr) (n mc : Nat) (w : World) : Calls Try.prog 20 #[.string veh, .slice ma n mc] w (RetB (.agg (madeC veh ma n mc).toArray) w) := by
  have HT := Lib.hid (fun (z : List Value) (h : 36 ≤ z.length) => there_new w z 54 36 h)
  have HS := Lib.hid (show (Try.prog.info? 54).map (·.size) = some (madeC veh ma n mc).toArray.size from by kernel_rfl)
  have HO := Lib.hid (all_oneCell_toArray (made_one veh ma n mc))
  go_enter Try.func20, Try.ntmps20
  go_wp2_with ((refine wpList_store_mid rfl 54 _ _ rfl w.heap.size 0 (madeC veh ma n mc).toArray rfl rfl (HT.out _ (by simp)) HS.out HO.out ?_))
  refine bodyPost_ret (results_cell rfl (p := ⟨w.heap.size, 0, none⟩) rfl (run_loadVar_mid _ w.heap.size 0 54 (madeC veh ma n mc) _ (World.rangeAt_setCells_same _ _ _ _ (HT.out _ (by simp))) Try.underlying54 rfl HS.out)) rfl (retB rfl (below_setCells _ _ _ _ (by repeat (first | exact Below.refl _ _ | assumption | refine Below.drew ?_ | refine below_drewN ?_ _ | refine Below.alloc ?_ (by first | omega | (simp; done) | (simp; omega)) _ | refine Below.setCell ?_ (by first | omega | (simp; done) | (simp; omega)) _ | refine Below.trans ?_ (Below.mono (by assumption) (by first | omega | (simp; done) | (simp; omega))))) (Nat.le_refl _)))
set_option maxRecDepth 100000 in
theorem back_any (author : Int) (id : ByteArray) (w : World) : Calls Try.prog 19 #[.int .i64 author, .string id] w (RetB (.agg (backC author id).toArray) w) := by
  have HT := Lib.hid (fun (z : List Value) (h : 36 ≤ z.length) => there_new w z 54 36 h)
  have HS := Lib.hid (show (Try.prog.info? 54).map (·.size) = some (backC author id).toArray.size from by kernel_rfl)
  have HO := Lib.hid (all_oneCell_toArray (back_one author id))
  go_enter Try.func19, Try.ntmps19
  go_wp2_with ((refine wpList_store_mid rfl 54 _ _ rfl w.heap.size 0 (backC author id).toArray rfl rfl (HT.out _ (by simp)) HS.out HO.out ?_))
  refine bodyPost_ret (results_cell rfl (p := ⟨w.heap.size, 0, none⟩) rfl (run_loadVar_mid _ w.heap.size 0 54 (backC author id) _ (World.rangeAt_setCells_same _ _ _ _ (HT.out _ (by simp))) Try.underlying54 rfl HS.out)) rfl (retB rfl (below_setCells _ _ _ _ (by repeat (first | exact Below.refl _ _ | assumption | refine Below.drew ?_ | refine below_drewN ?_ _ | refine Below.alloc ?_ (by first | omega | (simp; done) | (simp; omega)) _ | refine Below.setCell ?_ (by first | omega | (simp; done) | (simp; omega)) _ | refine Below.trans ?_ (Below.mono (by assumption) (by first | omega | (simp; done) | (simp; omega))))) (Nat.le_refl _)))
/-- few records of a moderate size -/
def FewR (ids : List ByteArray) (l : List Rec) (n : Nat) : Prop := l.length ≤ n ∧ ids.length ≤ n ∧ (∀ r ∈ l, r.members.length ≤ 20 ∧ r.name.size ≤ 100 ∧ r.target.size ≤ 100) ∧ ∀ s ∈ ids, s.size ≤ 100
theorem FewR.few {ids : List ByteArray} {l : List Rec} {n : Nat} (h : FewR ids l n) (hn : n ≤ 1000) : Few ids l := ⟨by have := h.1; omega, fun s hs => by have := h.2.2.2 s hs; omega, fun r hr => by have := (h.2.2.1 r hr).2.2; omega⟩
noncomputable def fewRB (ids : List ByteArray) (l : List Rec) (n : Nat) : Bool := @decide (FewR ids l n) (Classical.propDecidable _)
theorem fewRB_yes {ids : List ByteArray} {l : List Rec} {n : Nat} (h : FewR ids l n) : fewRB ids l n = true := @decide_eq_true _ (Classical.propDecidable _) h
theorem fewRB_no {ids : List ByteArray} {l : List Rec} {n : Nat} (h : ¬ FewR ids l n) : fewRB ids l n = false := @decide_eq_false _ (Classical.propDecidable _) h
set_option maxRecDepth 100000 in
set_option maxHeartbeats 2000000 in
theorem rfew_any (ids : List ByteArray) (l : List Rec) (ia ra : Option Addr) (ic rc n : Nat) (w : World) (hI : ES.At w ia ids) (hR : ER.At w ra l) (hA : RecAll w l) (hn : n ≤ 1000) :
    Calls Try.prog 21 #[.slice ia ids.length ic, .slice ra l.length rc, .int .i64 n] w (RetS (.bool (fewRB ids l n)) w) := by
  have HI := Lib.hid hI
  have HR := Lib.hid hR
  have HRA := Lib.hid hA
  obtain ⟨p, hp⟩ : ∃ p, p = l.length := ⟨_, rfl⟩
  obtain ⟨q, hq⟩ : ∃ q, q = ids.length := ⟨_, rfl⟩
  have HP := Lib.hid hp
  have HQ := Lib.hid hq
  rw [← hp, ← hq]
  clear hp hq hI hR hA
  by_cases h1 : n < p
  · have d1 : decide (n < p) = true := decide_eq_true h1
    go_enter Try.func21, Try.ntmps21
    (have HD := Lib.hid (show fewRB ids l n = false from fewRB_no fun h => by have := h.1; have := HP.out; omega); go_wp2_with fail; go_ret; exact retS (vbool HD.out.symm))
  · have d1 : decide (n < p) = false := decide_eq_false h1
    by_cases h2 : n < q
    · have d2 : decide (n < q) = true := decide_eq_true h2
      go_enter Try.func21, Try.ntmps21
      (have HD := Lib.hid (show fewRB ids l n = false from fewRB_no fun h => by have := h.2.1; have := HQ.out; omega); go_wp2_with fail; go_ret; exact retS (vbool HD.out.symm))
    · have d2 : decide (n < q) = false := decide_eq_false h2
      have HPN := Lib.hid (show p ≤ n by omega)
      have HQN := Lib.hid (show q ≤ n by omega)
      clear h1 h2
      go_enter Try.func21, Try.ntmps21
      go_wp2_with fail
      have hp1 := HPN.out
      have hq1 := HQN.out
      go_loopg [7] (p + 1) (fun g v7 wr => ∃ i : Nat, i ≤ p ∧ g + i = p + 1 ∧ v7 = .int .i64 i ∧ wr = w ∧ ∀ r (hr : r < l.length), r < i → l[r].members.length ≤ 20 ∧ l[r].name.size ≤ 100 ∧ l[r].target.size ≤ 100)
      case atStart => exact ⟨0, by omega, by omega, rfl, rfl, fun r _ hr => absurd hr (by omega)⟩
      case round =>
        obtain ⟨i, hi, hgi, rfl, rfl, hall⟩ := hrel
        have HALL := Lib.hid hall
        clear hall
        by_cases hlt : i < p
        · have hiL : i < l.length := by have := HP.out; omega
          obtain ⟨b, off, rfl, _⟩ := HR.out.head (by omega)
          obtain ⟨c0, c1, c5, c6, c8⟩ := rc_cells HR.out HRA.out hiL
          have hml := (HRA.out _ (List.getElem_mem hiL)).1.ml
          obtain ⟨r, hr⟩ : ∃ r, r = l[i] := ⟨_, rfl⟩
          rw [← hr] at c0 c1 c5 c6 c8 hml
          obtain ⟨ml, hme⟩ : ∃ ml, ml = r.members.length := ⟨_, rfl⟩
          rw [← hme] at c8
          obtain ⟨nm, hnm⟩ : ∃ nm, nm = r.name := ⟨_, rfl⟩
          rw [← hnm] at c6
          obtain ⟨tg, htg⟩ : ∃ tg, tg = r.target := ⟨_, rfl⟩
          rw [← htg] at c5
          have HRE := Lib.hid hr
          have HME := Lib.hid hme
          have HNM := Lib.hid hnm
          have HTG := Lib.hid htg
          have n1 : (i : Int) < (p : Int) := by omega
          have n0 : (0 : Int) ≤ (i : Int) := by omega
          clear hr hme hnm htg hml
          by_cases a1 : 20 < ml
          · have d3 : decide (20 < ml) = true := decide_eq_true a1
            (have HD := Lib.hid (show fewRB ids l n = false from fewRB_no fun h => by have h5 := (h.2.2.1 _ (List.getElem_mem hiL)).1; have h6 := HME.out; rw [HRE.out] at h6; omega); go_wp2_with fail; go_ret; exact retS (vbool HD.out.symm))
          · have d3 : decide (20 < ml) = false := decide_eq_false a1
            by_cases a2 : 100 < nm.size
            · have d4 : decide (100 < nm.size) = true := decide_eq_true a2
              (have HD := Lib.hid (show fewRB ids l n = false from fewRB_no fun h => by have h5 := (h.2.2.1 _ (List.getElem_mem hiL)).2.1; have h6 := HNM.out; rw [HRE.out] at h6; rw [← h6] at h5; omega); go_wp2_with fail; go_ret; exact retS (vbool HD.out.symm))
            · have d4 : decide (100 < nm.size) = false := decide_eq_false a2
              by_cases a3 : 100 < tg.size
              · have d5 : decide (100 < tg.size) = true := decide_eq_true a3
                (have HD := Lib.hid (show fewRB ids l n = false from fewRB_no fun h => by have h5 := (h.2.2.1 _ (List.getElem_mem hiL)).2.2; have h6 := HTG.out; rw [HRE.out] at h6; rw [← h6] at h5; omega); go_wp2_with fail; go_ret; exact retS (vbool HD.out.symm))
              · have d5 : decide (100 < tg.size) = false := decide_eq_false a3
                go_wp2_with fail
                go_roundg (p - i)
                case measure => omega
                case rel => exact ⟨i + 1, by omega, by omega, by go_num, rfl, fun k hk hki => by
                  rcases Nat.lt_succ_iff_lt_or_eq.1 hki with h | h
                  · exact HALL.out k hk h
                  · subst h
                    rw [← HRE.out, ← HME.out, ← HNM.out, ← HTG.out]
                    omega⟩
        · obtain rfl : i = p := by omega
          have HL := Lib.hid (show ∀ r ∈ l, r.members.length ≤ 20 ∧ r.name.size ≤ 100 ∧ r.target.size ≤ 100 from fun r hr => by
            obtain ⟨k, hk, rfl⟩ := List.getElem_of_mem hr
            exact HALL.out k hk (by rw [HP.out]; exact hk))
          go_wp2_with fail
          go_loopg [8] (q + 1) (fun g v8 w' => ∃ j : Nat, j ≤ q ∧ g + j = q + 1 ∧ v8 = .int .i64 j ∧ w' = wr ∧ ∀ r (hr : r < ids.length), r < j → ids[r].size ≤ 100)
          case atStart => exact ⟨0, by omega, by omega, rfl, rfl, fun r _ hr => absurd hr (by omega)⟩
          case round =>
            obtain ⟨j, hj, hgj, rfl, rfl, hal2⟩ := hrel
            have HAL2 := Lib.hid hal2
            clear hal2
            by_cases hlt2 : j < q
            · have hjI : j < ids.length := by have := HQ.out; omega
              obtain ⟨b, off, rfl, _⟩ := HI.out.head (by omega)
              have hc := str_cell HI.out hjI
              obtain ⟨sx, hsx⟩ : ∃ sx, sx = ids[j] := ⟨_, rfl⟩
              rw [← hsx] at hc
              have HSX := Lib.hid hsx
              have n1 : (j : Int) < (q : Int) := by omega
              have n0 : (0 : Int) ≤ (j : Int) := by omega
              clear hsx
              by_cases a1 : 100 < sx.size
              · have d3 : decide (100 < sx.size) = true := decide_eq_true a1
                (have HD := Lib.hid (show fewRB ids l n = false from fewRB_no fun h => by have h5 := h.2.2.2 _ (List.getElem_mem hjI); rw [← HSX.out] at h5; omega); go_wp2_with fail; go_ret; exact retS (vbool HD.out.symm))
              · have d3 : decide (100 < sx.size) = false := decide_eq_false a1
                go_wp2_with fail
                go_roundg (q - j)
                case measure => omega
                case rel => exact ⟨j + 1, by omega, by omega, by go_num, rfl, fun k hk hki => by
                  rcases Nat.lt_succ_iff_lt_or_eq.1 hki with h | h
                  · exact HAL2.out k hk h
                  · subst h
                    rw [← HSX.out]
                    omega⟩
            · obtain rfl : j = q := by omega
              have HD := Lib.hid (show fewRB ids l n = true from fewRB_yes ⟨by have := HP.out; omega, by have := HQ.out; omega, HL.out, fun s hs => by
                obtain ⟨k, hk, rfl⟩ := List.getElem_of_mem hs
                exact HAL2.out k hk (by rw [HQ.out]; exact hk)⟩)
              go_wp2_with fail
              go_ret
              exact retS (vbool HD.out.symm)
set_option maxRecDepth 100000 in
theorem few_any (ids : List ByteArray) (l : List Rec) (ia ra : Option Addr) (ic rc : Nat) (w : World) (hI : ES.At w ia ids) (hR : ER.At w ra l) (hA : RecAll w l) :
    Calls Try.prog 10 #[.slice ia ids.length ic, .slice ra l.length rc] w (RetS (.bool (fewRB ids l 30)) w) := by
  have HF := Lib.hid (rfew_any ids l ia ra ic rc 30 w hI hR hA (by omega))
  clear hI hR hA
  go_enter Try.func10, Try.ntmps10
  go_wp2_with fail
  refine Calls.mono HF.out ?_
  rintro e w1 ⟨rfl, rfl⟩
  go_wp2_with fail
  go_ret
  exact retS rfl
end Go.Proofs.Ytgoomcnaemfjcaa
