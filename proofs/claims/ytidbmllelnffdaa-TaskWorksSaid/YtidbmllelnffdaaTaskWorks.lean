

/- TaskWorks: for every valid tasks and numbers: beginning with nothing, and doing ready tasks, chosen by the numbers, until none is ready, exactly those tasks are done that need nothing which needs itself, and do not need themselves: the call of the law returns true, for every input. -/
import Derived.Test.YtidbmllelnffdaaTaskT
import Derived.Test.YtidbmllelnffdaaTaskX
import Derived.Test.YtidbmllelnffdaaAcyc
import Derived.Test.YtidbmllelnffdaaNeeds
import Derived.BigQuiet
namespace Go.Proofs.Ytidbmllelnffdaa
open Go.ChangeShapes Go.WideShapes Go.ChangeAt Go.RowKit Go.Joins

/-- a slice of bytes whose first one lies at 'a' reads as these -/
def U8s (w : World) (a : Option Addr) (l : List Int) : Prop := ∀ j, j < l.length → ∃ b off, a = some ⟨b, off, none⟩ ∧ w.cell? ⟨b, off + j, none⟩ = some (.int .u8 (ig l j))
theorem U8s.later {w w1 : World} {a : Option Addr} {l : List Int} (h : U8s w a l) (hb : Below w.heap.size w w1) : U8s w1 a l := fun j hj => by
  obtain ⟨b, off, ha, hc⟩ := h j hj
  exact ⟨b, off, ha, cell_later hb hc⟩
section
variable {H : Type} {enc : TypeId × Value → H} {w : World} {held : Bool}
theorem open_bytes {b0 : Nat} {r : Reach} {v : Value} {d : DataW H} {p : List MemPlace} (hv : Value.okWide Try.prog w r b0 42 v) (h : DataW.Trod enc Try.prog w 0 (fun _ => true) held 42 v d p) :
    ∃ (a : Option Addr) (cap : Nat) (l : List Int), v = .slice a l.length cap ∧ U8s w a l ∧ l.length < 9223372036854775808 ∧ ∀ j, j < l.length → 0 ≤ ig l j ∧ ig l j < 256 := by
  obtain ⟨a, len, cap, rfl⟩ := okWide_slice Try.underlying42 hv
  obtain ⟨fuel, hf⟩ := h
  rcases open_ints Try.underlying42 Try.underlying5 (by kernel_rfl) hf with ⟨hcs, _⟩ | ⟨a', len', cap', zs, hcs, _, hl, hm, hz, _, hc, hw⟩
  · simp [Value.cells] at hcs
    obtain ⟨rfl, rfl, rfl⟩ := hcs
    exact ⟨none, 0, [], rfl, fun j hj => absurd hj (by simp), by simp, fun j hj => absurd hj (by simp)⟩
  · simp [Value.cells] at hcs
    obtain ⟨rfl, rfl, rfl⟩ := hcs
    simp at hz
    unfold maxLen at hm
    have hg : ∀ j, j < len → ig (zs.take len) j = zs.getD j 0 := fun j hj => by simp [ig, List.getD, hj]
    refine ⟨some a', cap, zs.take len, by simp; omega, fun j hj => ?_, by simp; omega, fun j hj => ?_⟩
    · simp only [List.length_take] at hj
      obtain ⟨b, off, rfl, hc'⟩ := cells_at (n := zs.length) (by omega) hc
      refine ⟨b, off, rfl, ?_⟩
      rw [hc' j (by omega), hg j (by omega)]
    · simp only [List.length_take] at hj
      rw [hg j (by omega)]
      have hjz : j < zs.length := by omega
      have := hw (zs.getD j 0) (by simp only [List.getD, List.getElem?_eq_getElem hjz, Option.getD_some]; exact List.getElem_mem hjz)
      have h1 := Bool.and_eq_true_iff.1 this
      have h2 : (0 : Int) ≤ zs.getD j 0 := of_decide_eq_true h1.1
      have h3 : zs.getD j 0 ≤ 255 := of_decide_eq_true h1.2
      omega
end

/-- while ready tasks are done: n of them -/
def WI (l : List Tk) (n : Nat) (D : List Bool) : Prop := D.length = l.length ∧ D.count true = n ∧ ∀ i, i < l.length → bg D i = true → ∃ x, HV l i x
theorem WI.le {l : List Tk} {n : Nat} {D : List Bool} (h : WI l n D) : n ≤ l.length := by
  have := List.count_le_length (a := true) (l := D)
  rw [h.1, h.2.1] at this
  exact this
theorem WI.start (l : List Tk) : WI l 0 (List.replicate l.length false) := by
  refine ⟨by simp, by simp [List.count_replicate], fun i hi h => ?_⟩
  have e : bg (List.replicate l.length false) i = false := by
    simp [bg, List.getElem?_replicate]
    split <;> rfl
  rw [e] at h
  cases h
theorem WI.step {l : List Tk} (hv' : VT l) {n i : Nat} {D : List Bool} (h : WI l n D) (hi : i < l.length) (hr : rdy l D i = true) : WI l (n + 1) (D.set i true) := by
  obtain ⟨h1, h2, h3⟩ := h
  have ho := rdy_open hr
  have hc := bcount_put (d := D) (i := i) (y := true) (by omega) ho
  simp at hc
  refine ⟨by simpa using h1, by omega, fun j hj hb => ?_⟩
  rw [bg_set (by omega)] at hb
  by_cases e : i = j
  · subst e
    unfold rdy at hr
    rw [Bool.and_eq_true] at hr
    exact HV.ex hi fun r hr' => h3 _ (by have := good_in ((hv'.2 i hi).2.2.2.2) hr'; omega) (allDone_iff.1 hr.2 r hr')
  · rw [if_neg e] at hb
    exact h3 j hj hb
theorem col_none {l : List Tk} {d : List Bool} (h : col l d l.length = []) : ∀ i, i < l.length → rdy l d i = false := fun i hi => by
  cases hr : rdy l d i
  · rfl
  · have : (i : Int) ∈ col l d l.length := by
      unfold col
      exact List.mem_map.2 ⟨i, List.mem_filter.2 ⟨by simpa using hi, hr⟩, rfl⟩
    rw [h] at this
    cases this
theorem col_at {l : List Tk} {d : List Bool} {q : Nat} (hq : q < (col l d l.length).length) : ∃ i : Nat, ig (col l d l.length) q = i ∧ i < l.length ∧ rdy l d i = true := by
  have hm : ig (col l d l.length) q ∈ ((List.range l.length).filter (rdy l d)).map fun n : Nat => (n : Int) := ig_mem hq
  obtain ⟨i, h1, h2⟩ := List.mem_map.1 hm
  obtain ⟨h3, h4⟩ := List.mem_filter.1 h1
  exact ⟨i, h2.symm, by simpa using h3, h4⟩

namespace TaskWorks
set_option maxRecDepth 100000 in
set_option maxHeartbeats 2000000 in
theorem no (w : World) (a : Option Addr) (cap : Nat) (l : List Tk) (hT : Tasks w a l) (hl : l.length < 9223372036854775808) (hS : ∀ i, i < l.length → (tg l i).after.length < 9223372036854775808) (ra : Option Addr) (rc : Nat) (raw : List Int) (hl2 : raw.length < 9223372036854775808) (hno : ¬ FewT l ∨ FewT l ∧ ¬ VT l ∨ FewT l ∧ VT l ∧ 60 < raw.length) :
    Calls Try.prog 5 #[.slice a l.length cap, .slice ra raw.length rc] w (RetB (.bool true) w) := by
  have HS := Lib.hid (fun _ : l.length ≤ 45 => hS)
  have HS' := Lib.hid (fun _ : l.length ≤ 40 => hS)
  rcases hno with hf | ⟨hf, hv⟩ | ⟨hf, hv, h60⟩
  · have HF := Lib.hid (show false = true ↔ FewT l by simp [hf])
    clear hf hS
    go_enter Try.func5, Try.ntmps5
    go_wp2_with fail
    refine Calls.mono (head_any _) ?_
    rintro e w1 ⟨rfl, hb1⟩; have hs1 := hb1.size; (try simp at hs1)
    go_wp2_with fail
    refine Calls.mono (few_any l false a cap _ (hT.later (by repeat (first | exact Below.refl _ _ | assumption | refine Below.drew ?_ | refine below_drewN ?_ _ | refine Below.alloc ?_ (by first | omega | (simp; done) | (simp; omega)) _ | refine Below.setCell ?_ (by first | omega | (simp; done) | (simp; omega)) _ | refine Below.trans ?_ (Below.mono (by assumption) (by first | omega | (simp; done) | (simp; omega)))))) hl HS.out HF.out) ?_
    rintro e w2 ⟨rfl, rfl⟩
    go_wp2_with fail
    go_ret
    exact retB rfl (by repeat (first | exact Below.refl _ _ | assumption | refine Below.drew ?_ | refine below_drewN ?_ _ | refine Below.alloc ?_ (by first | omega | (simp; done) | (simp; omega)) _ | refine Below.setCell ?_ (by first | omega | (simp; done) | (simp; omega)) _ | refine Below.trans ?_ (Below.mono (by assumption) (by first | omega | (simp; done) | (simp; omega)))))
  · have HF := Lib.hid (show true = true ↔ FewT l by simp [hf])
    have HV := Lib.hid (show false = true ↔ VT l by simp [hv])
    clear hf hS hv
    go_enter Try.func5, Try.ntmps5
    go_wp2_with fail
    refine Calls.mono (head_any _) ?_
    rintro e w1 ⟨rfl, hb1⟩; have hs1 := hb1.size; (try simp at hs1)
    go_wp2_with fail
    refine Calls.mono (few_any l true a cap _ (hT.later (by repeat (first | exact Below.refl _ _ | assumption | refine Below.drew ?_ | refine below_drewN ?_ _ | refine Below.alloc ?_ (by first | omega | (simp; done) | (simp; omega)) _ | refine Below.setCell ?_ (by first | omega | (simp; done) | (simp; omega)) _ | refine Below.trans ?_ (Below.mono (by assumption) (by first | omega | (simp; done) | (simp; omega)))))) hl HS.out (by simpa using HF.out)) ?_
    rintro e w2 ⟨rfl, rfl⟩
    go_wp2_with fail
    refine Calls.mono (rvalid_any l a cap false _ (hT.later (by repeat (first | exact Below.refl _ _ | assumption | refine Below.drew ?_ | refine below_drewN ?_ _ | refine Below.alloc ?_ (by first | omega | (simp; done) | (simp; omega)) _ | refine Below.setCell ?_ (by first | omega | (simp; done) | (simp; omega)) _ | refine Below.trans ?_ (Below.mono (by assumption) (by first | omega | (simp; done) | (simp; omega)))))) hl HS'.out (by simpa using HV.out)) ?_
    rintro e w3 ⟨rfl, hb3⟩
    have hs3 := hb3.size
    go_wp2_with fail
    go_ret
    exact retB rfl (by repeat (first | exact Below.refl _ _ | assumption | refine Below.drew ?_ | refine below_drewN ?_ _ | refine Below.alloc ?_ (by first | omega | (simp; done) | (simp; omega)) _ | refine Below.setCell ?_ (by first | omega | (simp; done) | (simp; omega)) _ | refine Below.trans ?_ (Below.mono (by assumption) (by first | omega | (simp; done) | (simp; omega)))))
  · have HF := Lib.hid (show true = true ↔ FewT l by simp [hf])
    have HV := Lib.hid (show true = true ↔ VT l by simp [hv])
    clear hf hS hv
    go_enter Try.func5, Try.ntmps5
    go_wp2_with fail
    refine Calls.mono (head_any _) ?_
    rintro e w1 ⟨rfl, hb1⟩; have hs1 := hb1.size; (try simp at hs1)
    go_wp2_with fail
    refine Calls.mono (few_any l true a cap _ (hT.later (by repeat (first | exact Below.refl _ _ | assumption | refine Below.drew ?_ | refine below_drewN ?_ _ | refine Below.alloc ?_ (by first | omega | (simp; done) | (simp; omega)) _ | refine Below.setCell ?_ (by first | omega | (simp; done) | (simp; omega)) _ | refine Below.trans ?_ (Below.mono (by assumption) (by first | omega | (simp; done) | (simp; omega)))))) hl HS.out (by simpa using HF.out)) ?_
    rintro e w2 ⟨rfl, rfl⟩
    go_wp2_with fail
    refine Calls.mono (rvalid_any l a cap true _ (hT.later (by repeat (first | exact Below.refl _ _ | assumption | refine Below.drew ?_ | refine below_drewN ?_ _ | refine Below.alloc ?_ (by first | omega | (simp; done) | (simp; omega)) _ | refine Below.setCell ?_ (by first | omega | (simp; done) | (simp; omega)) _ | refine Below.trans ?_ (Below.mono (by assumption) (by first | omega | (simp; done) | (simp; omega)))))) hl HS'.out (by simpa using HV.out)) ?_
    rintro e w3 ⟨rfl, hb3⟩
    have hs3 := hb3.size
    go_wp2_with fail
    go_ret
    exact retB rfl (by repeat (first | exact Below.refl _ _ | assumption | refine Below.drew ?_ | refine below_drewN ?_ _ | refine Below.alloc ?_ (by first | omega | (simp; done) | (simp; omega)) _ | refine Below.setCell ?_ (by first | omega | (simp; done) | (simp; omega)) _ | refine Below.trans ?_ (Below.mono (by assumption) (by first | omega | (simp; done) | (simp; omega)))))

open Classical in
set_option maxRecDepth 100000 in
set_option maxHeartbeats 8000000 in
theorem yes (w : World) (a : Option Addr) (cap : Nat) (l : List Tk) (hT : Tasks w a l) (hl : l.length < 9223372036854775808) (hS : ∀ i, i < l.length → (tg l i).after.length < 9223372036854775808) (ra : Option Addr) (rc : Nat) (raw : List Int) (hR : U8s w ra raw) (hrb : ∀ j, j < raw.length → 0 ≤ ig raw j ∧ ig raw j < 256) (hf : FewT l) (hv : VT l) (h60 : raw.length ≤ 60) : Calls Try.prog 5 #[.slice a l.length cap, .slice ra raw.length rc] w (RetB (.bool true) w) := by
  have HS := Lib.hid (fun _ : l.length ≤ 45 => hS)
  have HS' := Lib.hid (fun _ : l.length ≤ 40 => hS)
  have HF := Lib.hid (show true = true ↔ FewT l by simp [hf])
  have HV := Lib.hid hv
  have HRB := Lib.hid hrb
  have h40 := hv.1
  clear hf hS hv hrb
  go_enter Try.func5, Try.ntmps5
  go_wp2_with fail
  refine Calls.mono (head_any _) ?_
  rintro e w1 ⟨rfl, hb1⟩; have hs1 := hb1.size; (try simp at hs1)
  go_wp2_with fail
  refine Calls.mono (few_any l true a cap _ (hT.later (by repeat (first | exact Below.refl _ _ | assumption | refine Below.drew ?_ | refine below_drewN ?_ _ | refine Below.alloc ?_ (by first | omega | (simp; done) | (simp; omega)) _ | refine Below.setCell ?_ (by first | omega | (simp; done) | (simp; omega)) _ | refine Below.trans ?_ (Below.mono (by assumption) (by first | omega | (simp; done) | (simp; omega)))))) hl HS.out (by simpa using HF.out)) ?_
  rintro e w2 ⟨rfl, rfl⟩
  go_wp2_with fail
  refine Calls.mono (rvalid_any l a cap true _ (hT.later (by repeat (first | exact Below.refl _ _ | assumption | refine Below.drew ?_ | refine below_drewN ?_ _ | refine Below.alloc ?_ (by first | omega | (simp; done) | (simp; omega)) _ | refine Below.setCell ?_ (by first | omega | (simp; done) | (simp; omega)) _ | refine Below.trans ?_ (Below.mono (by assumption) (by first | omega | (simp; done) | (simp; omega)))))) hl HS'.out (by simp [HV.out])) ?_
  rintro e w3 ⟨rfl, hb3⟩
  have hs3 := hb3.size
  have hk3 : Below w.heap.size w w3 := (by repeat (first | exact Below.refl _ _ | assumption | refine Below.drew ?_ | refine below_drewN ?_ _ | refine Below.alloc ?_ (by first | omega | (simp; done) | (simp; omega)) _ | refine Below.setCell ?_ (by first | omega | (simp; done) | (simp; omega)) _ | refine Below.trans ?_ (Below.mono (by assumption) (by first | omega | (simp; done) | (simp; omega)))))
  clear hb3 hb1
  go_wp2_with (at_make; go_must (refine make_bool _ rfl _ _ rfl .i64 .i64 l.length rfl rfl (by omega) ?_); intro w4 ho4 hb4 hsz4)
  have hs4 := hb4.size
  go_loopg [7] (l.length + 1) (fun k v7 wr => ∃ (n : Nat) (D : List Bool), k + n = l.length + 1 ∧ v7 = .int .i64 n ∧ Below w3.heap.size w3 wr ∧ OwnB wr w3.heap.size w3.heap.size D ∧ WI l n D)
  case atStart => exact ⟨0, _, by omega, rfl, hb4, ho4, WI.start l⟩
  case round =>
    obtain ⟨wo, rfl⟩ : ∃ wo : World, wo = wr := ⟨_, rfl⟩
    obtain ⟨n, D, hk, rfl, hbel, hown, hwi⟩ := hrel
    have hsz := hbel.size
    have hnl := hwi.le
    have HWI := Lib.hid hwi
    have HDL := Lib.hid hwi.1
    have hko : Below w.heap.size w wo := hk3.trans (hbel.mono (by omega))
    have hgo := hown.lt
    clear hwi ho4 hb4 hsz4
    obtain ⟨C, hC⟩ : ∃ C, C = col l D l.length := ⟨_, rfl⟩
    have hCl : C.length ≤ l.length := by rw [hC]; exact col_len _ _ _
    have HC := Lib.hid hC
    have c := ready_yes l D a (some ⟨w3.heap.size, 0, none⟩) cap l.length wo (hT.later hko) hown.bools HV.out HDL.out
    rw [HDL.out, ← hC] at c
    have HR := Lib.hid c
    clear c hC
    go_wp2_with fail
    refine Calls.mono HR.out ?_
    rintro e w5 ⟨ca, cc, rfl, hI5, hb5⟩
    have hs5 := hb5.size
    have hk5 : Below w.heap.size w w5 := hko.trans (hb5.mono (by omega))
    have hb35 : Below w3.heap.size w3 w5 := hbel.trans (hb5.mono (by omega))
    have hown5 := hown.later hb5
    clear hb5 hko hbel hown HR
    by_cases hC0 : C.length = 0
    · go_wp2_with fail
      refine Calls.mono (needs_any l a cap _ (hT.later hk5) HV.out) ?_
      rintro e w6 ⟨B, g, R, rfl, hM6, hb6⟩
      have hs6 := hb6.size
      have hk6 : Below w.heap.size w w6 := hk5.trans (hb6.mono (by omega))
      have hown6 := hown5.later hb6
      have hst : ∀ i, i < l.length → (bg D i = true ↔ ¬ Stuck l i) := fun i hi => end_done HV.out HWI.out.2.2 (col_none (by rw [← HC.out]; exact List.eq_nil_of_length_eq_zero hC0)) hi
      have HST := Lib.hid hst
      clear hst hb6 hown5 hk5 hb35 hI5
      go_wp2_with fail
      go_loopg [12] (l.length + 1) (fun k v12 wr => ∃ i : Nat, i ≤ l.length ∧ k + i = l.length + 1 ∧ v12 = .int .i64 i ∧ Below w6.heap.size w6 wr)
      case atStart => exact ⟨0, by omega, by omega, rfl, Below.refl _ _⟩
      case round =>
        obtain ⟨ko, rfl⟩ : ∃ ko : Nat, ko = gk := ⟨_, rfl⟩
        obtain ⟨wp, rfl⟩ : ∃ wp : World, wp = wr := ⟨_, rfl⟩
        obtain ⟨i, hil, hki, rfl, hbp⟩ := hrel
        have hszp := hbp.size
        by_cases hlt : i < l.length
        · have hMp := hM6.later hbp
          have hmc := hMp.cell hlt hlt
          have hmt := hMp.at hlt hlt hlt
          have hRB := hMp.rowLt hlt hlt
          have hgB := hMp.lt
          have i1 : (i : Int) < (l.length : Int) := by omega
          have hn : mg (nd l) i i = decide (Need l i i) := bg_nd i hlt
          obtain ⟨b0, hb0⟩ : ∃ b0 : Bool, b0 = decide (Need l i i) := ⟨_, rfl⟩
          rw [← hb0] at hn
          rw [hn] at hmt
          have HB0 := Lib.hid hb0
          clear hMp hn hb0
          go_wp2_with fail
          go_loopg [13, 14] (l.length + 1) (fun k v13 v14 wr => ∃ (c : Nat) (b : Bool), c ≤ l.length ∧ k + c = l.length + 1 ∧ v13 = .bool b ∧ v14 = .int .i64 c ∧ Below wp.heap.size wp wr ∧ (b = true ↔ Need l i i ∨ ∃ k', k' < c ∧ Need l i k' ∧ Need l k' k'))
          case atStart => exact ⟨0, b0, by omega, by omega, rfl, rfl, Below.refl _ _, by
            rw [HB0.out, decide_eq_true_iff]
            exact ⟨fun h => .inl h, fun h => h.resolve_right fun ⟨k', h, _⟩ => absurd h (by omega)⟩⟩
          case round =>
            obtain ⟨wq, rfl⟩ : ∃ wq : World, wq = wr := ⟨_, rfl⟩
            obtain ⟨c, b, hcl, hkc, rfl, rfl, hbq, hiff⟩ := hrel
            have hszq := hbq.size
            have HIF := Lib.hid hiff
            have hbpq := hbp.trans (hbq.mono (by omega))
            have hMq := hM6.later hbpq
            by_cases hlc : c < l.length
            · have hmc := hMq.cell hlt hlt
              have hmd := hMq.cell hlc hlc
              have hmt := hMq.at hlt hlt hlc
              have hmu := hMq.at hlc hlc hlc
              have hRB := hMq.rowLt hlt hlt
              have hRC := hMq.rowLt hlc hlc
              have hgB := hMq.lt
              have c1 : (c : Int) < (l.length : Int) := by omega
              have hn : mg (nd l) i c = decide (Need l i c) := bg_nd i hlc
              have hn2 : mg (nd l) c c = decide (Need l c c) := bg_nd c hlc
              clear hMq hbpq hiff
              cases b
              · by_cases hna : Need l i c
                · by_cases hnb : Need l c c
                  · simp [hna] at hn
                    simp [hnb] at hn2
                    rw [hn] at hmt
                    rw [hn2] at hmu
                    have HNA := Lib.hid hna
                    have HNB := Lib.hid hnb
                    clear hn hn2 hna hnb
                    go_wp2_with fail
                    go_roundg (gk - 1)
                    case measure => omega
                    case rel => exact ⟨c + 1, true, by omega, by omega, rfl, by go_num, (by repeat (first | exact Below.refl _ _ | assumption | refine Below.drew ?_ | refine below_drewN ?_ _ | refine Below.alloc ?_ (by first | omega | (simp; done) | (simp; omega)) _ | refine Below.setCell ?_ (by first | omega | (simp; done) | (simp; omega)) _ | refine Below.trans ?_ (Below.mono (by assumption) (by first | omega | (simp; done) | (simp; omega))))), fun _ => .inr ⟨c, by omega, HNA.out, HNB.out⟩, fun _ => rfl⟩
                  · simp [hna] at hn
                    simp [hnb] at hn2
                    rw [hn] at hmt
                    rw [hn2] at hmu
                    have HNB := Lib.hid hnb
                    clear hn hn2 hna hnb
                    go_wp2_with fail
                    go_roundg (gk - 1)
                    case measure => omega
                    case rel => exact ⟨c + 1, false, by omega, by omega, rfl, by go_num, (by repeat (first | exact Below.refl _ _ | assumption | refine Below.drew ?_ | refine below_drewN ?_ _ | refine Below.alloc ?_ (by first | omega | (simp; done) | (simp; omega)) _ | refine Below.setCell ?_ (by first | omega | (simp; done) | (simp; omega)) _ | refine Below.trans ?_ (Below.mono (by assumption) (by first | omega | (simp; done) | (simp; omega))))), fun h => (by cases h), fun h => by
                      have h2 : Need l i i ∨ ∃ k', k' < c ∧ Need l i k' ∧ Need l k' k' := by
                        rcases h with h | ⟨k', h1, h2, h3⟩
                        · exact .inl h
                        · by_cases e : k' = c
                          · subst e; exact absurd h3 HNB.out
                          · exact .inr ⟨k', by omega, h2, h3⟩
                      have := HIF.out.2 h2
                      simp at this⟩
                · simp [hna] at hn
                  rw [hn] at hmt
                  have HNA := Lib.hid hna
                  clear hn hn2 hna
                  go_wp2_with fail
                  go_roundg (gk - 1)
                  case measure => omega
                  case rel => exact ⟨c + 1, false, by omega, by omega, rfl, by go_num, (by repeat (first | exact Below.refl _ _ | assumption | refine Below.drew ?_ | refine below_drewN ?_ _ | refine Below.alloc ?_ (by first | omega | (simp; done) | (simp; omega)) _ | refine Below.setCell ?_ (by first | omega | (simp; done) | (simp; omega)) _ | refine Below.trans ?_ (Below.mono (by assumption) (by first | omega | (simp; done) | (simp; omega))))), fun h => (by cases h), fun h => by
                      have h2 : Need l i i ∨ ∃ k', k' < c ∧ Need l i k' ∧ Need l k' k' := by
                        rcases h with h | ⟨k', h1, h2, h3⟩
                        · exact .inl h
                        · by_cases e : k' = c
                          · subst e; exact absurd h2 HNA.out
                          · exact .inr ⟨k', by omega, h2, h3⟩
                      have := HIF.out.2 h2
                      simp at this⟩
              · clear hn hn2
                go_wp2_with fail
                go_roundg (gk - 1)
                case measure => omega
                case rel => exact ⟨c + 1, true, by omega, by omega, rfl, by go_num, (by repeat (first | exact Below.refl _ _ | assumption | refine Below.drew ?_ | refine below_drewN ?_ _ | refine Below.alloc ?_ (by first | omega | (simp; done) | (simp; omega)) _ | refine Below.setCell ?_ (by first | omega | (simp; done) | (simp; omega)) _ | refine Below.trans ?_ (Below.mono (by assumption) (by first | omega | (simp; done) | (simp; omega))))), fun _ => by
                  rcases HIF.out.1 (by first | rfl | trivial) with h | ⟨k', h1, h2⟩
                  · exact .inl h
                  · exact .inr ⟨k', by omega, h2⟩, fun _ => rfl⟩
            · obtain rfl : c = l.length := by omega
              have hob := (hown6.later hbp).later hbq
              have hod := hob.cell (j := i) (by have := HDL.out; omega)
              have hdb : bg D i = !b := by
                have h1 := HST.out i hlt
                have h2 : b = true ↔ Stuck l i := HIF.out
                cases b
                · have : ¬ Stuck l i := fun h => by have := h2.2 h; cases this
                  exact h1.2 this
                · have := h2.1 rfl
                  cases hx : bg D i
                  · rfl
                  · exact absurd this (h1.1 hx)
              rw [hdb] at hod
              clear hob hdb hiff hMq
              cases b
              all_goals
                simp at hod
                go_wp2_with fail
                go_roundg (ko - 1)
                case measure => omega
                case rel => exact ⟨i + 1, by omega, by omega, by go_num, hbpq⟩
        · go_wp2_with fail
          go_ret
          exact retB rfl (hk6.trans (hbp.mono (by omega)))
    · have hWle := HWI.out
      by_cases hnr : n < raw.length
      · obtain ⟨rb, roff, hre, hrc⟩ := (hR.later hk5) n hnr
        have hb := HRB.out n hnr
        subst hre
        have hm0 : 0 ≤ ig raw n % (C.length : Int) := Int.emod_nonneg _ (by omega)
        have hm1 : ig raw n % (C.length : Int) < (C.length : Int) := Int.emod_lt_of_pos _ (by omega)
        obtain ⟨q, hq⟩ : ∃ q : Nat, ig raw n % (C.length : Int) = (q : Int) := ⟨(ig raw n % (C.length : Int)).toNat, by omega⟩
        have hqC : q < C.length := by omega
        clear hm0 hm1
        obtain ⟨i, hi, hil, hri⟩ := col_at (l := l) (d := D) (q := q) (by rw [← HC.out]; exact hqC)
        rw [← HC.out] at hi
        obtain ⟨cb, coff, hce, hcq⟩ := hI5 q hqC
        subst hce
        rw [hi] at hcq
        have hid := hown5.cell (j := i) (by have := HDL.out; omega)
        rw [rdy_open hri] at hid
        have hif := hown5.free i
        have hg5 := hown5.lt
        have e3 : decide ((i : Int) < 0) = false := by simp
        have e4 : decide (l.length ≤ i) = false := by simp; omega
        have i1 : (i : Int) < (l.length : Int) := by omega
        have hCz : ((C.length : Int) == 0) = false := by rw [beq_eq_false_iff_ne]; omega
        have HNX := Lib.hid (HWI.out.step HV.out hil hri)
        have HK := Lib.hid (show gk - 1 + (n + 1) = l.length + 1 by omega)
        clear hi hri hWle
        go_wp2_with fail
        go_roundg (gk - 1)
        case measure => omega
        case rel => exact ⟨n + 1, D.set i true, HK.out, by go_num, hb35.setCell (by change w3.heap.size ≤ w3.heap.size; exact Nat.le_refl _) _, hown5.set i true, HNX.out⟩
      · obtain ⟨q, hq⟩ : ∃ q : Nat, q = 0 := ⟨0, rfl⟩
        have hqC : q < C.length := by omega
        obtain ⟨i, hi, hil, hri⟩ := col_at (l := l) (d := D) (q := q) (by rw [← HC.out]; exact hqC)
        rw [← HC.out] at hi
        obtain ⟨cb, coff, hce, hcq⟩ := hI5 q hqC
        subst hce
        rw [hi] at hcq
        have hid := hown5.cell (j := i) (by have := HDL.out; omega)
        rw [rdy_open hri] at hid
        have hif := hown5.free i
        have hg5 := hown5.lt
        have e3 : decide ((i : Int) < 0) = false := by simp
        have e4 : decide (l.length ≤ i) = false := by simp; omega
        have i1 : (i : Int) < (l.length : Int) := by omega
        have hCz : ((C.length : Int) == 0) = false := by rw [beq_eq_false_iff_ne]; omega
        have HNX := Lib.hid (HWI.out.step HV.out hil hri)
        have HK := Lib.hid (show gk - 1 + (n + 1) = l.length + 1 by omega)
        clear hi hri hWle
        subst hq
        rw [Nat.add_zero] at hcq
        go_wp2_with fail
        go_roundg (gk - 1)
        case measure => omega
        case rel => exact ⟨n + 1, D.set i true, HK.out, by go_num, hb35.setCell (by change w3.heap.size ≤ w3.heap.size; exact Nat.le_refl _) _, hown5.set i true, HNX.out⟩
theorem walk (w : World) (a : Option Addr) (cap : Nat) (l : List Tk) (hT : Tasks w a l) (hl : l.length < 9223372036854775808) (hS : ∀ i, i < l.length → (tg l i).after.length < 9223372036854775808) (ra : Option Addr) (rc : Nat) (raw : List Int) (hR : U8s w ra raw) (hl2 : raw.length < 9223372036854775808) (hrb : ∀ j, j < raw.length → 0 ≤ ig raw j ∧ ig raw j < 256) : Calls Try.prog 5 #[.slice a l.length cap, .slice ra raw.length rc] w (RetB (.bool true) w) := by
  by_cases hf : FewT l
  · by_cases hv : VT l
    · by_cases h60 : raw.length ≤ 60
      · exact yes w a cap l hT hl hS ra rc raw hR hrb hf hv h60
      · exact no w a cap l hT hl hS ra rc raw hl2 (.inr (.inr ⟨hf, hv, by omega⟩))
    · exact no w a cap l hT hl hS ra rc raw hl2 (.inr (.inl ⟨hf, hv⟩))
  · exact no w a cap l hT hl hS ra rc raw hl2 (.inl hf)
end TaskWorks
namespace TaskWorks
set_option maxRecDepth 100000 in
theorem entry (H : Type) (enc : TypeId × Value → H) (W : World) (base : Nat) (args : Array Value) (ds : List (DataW H)) (p : List MemPlace)
    (hval : ∀ (j : Nat) t v, Try.f5.params[j]? = some t → args[j]? = some v → Value.okWide Try.prog W .any base t v)
    (hA : DataW.TrodAll enc Try.prog W 0 (fun _ => true) true Try.f5.params.toList args.toList ds p) :
    Calls Try.prog 5 args W (RetB (.bool true) W) := by
  rw [Try.params5] at hA hval
  obtain ⟨v0, vs0, d0, ds0, p0, q0, hargs, rfl, rfl, h0, r0⟩ := trodAll_cons hA
  obtain ⟨v1, vs1, d1, ds1, p1, q1, rfl, rfl, rfl, h1, r1⟩ := trodAll_cons r0
  obtain ⟨rfl, rfl, rfl⟩ := trodAll_nil r1
  obtain rfl : args = #[v0, v1] := by cases args; simp_all
  obtain ⟨la, lc, l, rfl, lT, ll, ls⟩ := open_tasks (hval 0 22 v0 rfl rfl) h0
  obtain ⟨ra, rc, r, rfl, rB, rl, rr⟩ := open_bytes (hval 1 42 v1 rfl rfl) h1
  exact walk W la lc l lT ll ls ra rc r rB rl rr
end TaskWorks
/-! The step from the walk to the row of TaskWorks. -/
namespace TaskWorks
set_option maxRecDepth 100000 in
theorem lifted (os : Os) (started : os.Started) (H : Type) (enc : TypeId × Value → H) :
    ReturnsInHanded {} Try.checked os 5 .any (Rows.taskWorksSpec.pre6 enc Try.prog Try.f5 Rows.taskWorksRow.domain false) (Rows.taskWorksSpec.post enc Try.prog Try.f5 false true false false) := by
  refine returnsInHanded_of_change (C := Try.checked) own started (by kernel_rfl) Try.func5
    (ChangeSpec.witness6 (enc := enc) (C := Try.checked) false ⟨#[], #[.slice none 0 0, .slice none 0 0], []⟩ 8 (by kernel_rfl) (by kernel_rfl) (by kernel_rfl) (by kernel_rfl)) ?_
  intro W base args ds gs before hval0 hW hcnd _
  have hval : ∀ (j : Nat) t v, Try.f5.params[j]? = some t → args[j]? = some v → Value.okWide Try.prog W .any base t v := hval0
  have hW' := hW
  obtain ⟨p, q, hA0, hV, rfl, hfz, hnd⟩ := hW
  have hA : DataW.TrodAll enc Try.prog W 0 (fun _ => true) true Try.f5.params.toList args.toList ds p := hA0
  obtain ⟨rfl, rfl⟩ := trodVars_none hV
  have hlen := trodAll_len _ _ _ _ hA
  obtain ⟨d0, d1, rfl⟩ : ∃ d0 d1, ds = [d0, d1] := by
    rw [Try.params5] at hlen
    exact list2 hlen
  refine (entry H enc W base args [d0, d1] p hval hA).mono fun e W' ⟨he, bel⟩ => ?_
  subst he
  exact ⟨_, rfl, _, _, _, [], _, [], hW', trodAll_mk1 (shut_bool Try.underlying4 _), readback laidOut _ _ _ _ (by rw [Try.params5]; exact of_decide_eq_true (by kernel_rfl)) hA bel, rfl, bel.frame _, fun h => by cases h⟩

theorem over : Rows.taskWorksRow.holds Try.pinned (OpenSpec.ofChange Rows.taskWorksSpec) :=
  OpenClaim.holds_of_wide 5 Try.f5 rfl rfl rfl rfl rfl rfl rfl ⟨rfl, rfl, rfl, rfl, rfl⟩ rfl rfl rfl rfl rfl (by kernel_rfl) Try.func5 (by kernel_rfl)
    (of_decide_eq_true (by kernel_rfl)) (by unfold Func.isWrapper; first | (rw [if_pos (by decide +kernel)]; kernel_rfl) | (rw [if_neg (by decide +kernel)]; exact ⟨rfl, rfl⟩))
    (fun os started H enc _ => lifted os started H enc)

/-- THE STATEMENT -/
theorem proved : Rows.TaskWorksSaid := over
end TaskWorks
#print axioms TaskWorks.proved
end Go.Proofs.Ytidbmllelnffdaa
