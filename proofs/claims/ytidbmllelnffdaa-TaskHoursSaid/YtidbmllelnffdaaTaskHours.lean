

/- TaskHours: for every valid tasks without a cycle and two indices: the critical hours are at least those of each task and of each task with one that it needs directly, and at most those of all; if the first task has to wait for the second one, too, they are not less, and no other task is ready in any state of work: the call of the law returns true, for every input. -/
import Derived.Test.YtidbmllelnffdaaMore
import Derived.BigQuiet
namespace Go.Proofs.Ytidbmllelnffdaa
open Go.ChangeShapes Go.WideShapes Go.ChangeAt Go.RowKit Go.Joins

namespace TaskHours
section
variable {H : Type} {enc : TypeId × Value → H} {w : World} {held : Bool}
theorem open_u8 {b0 : Nat} {r : Reach} {v : Value} {d : DataW H} {p : List MemPlace} (hv : Value.okWide Try.prog w r b0 5 v) (h : DataW.Trod enc Try.prog w 0 (fun _ => true) held 5 v d p) :
    ∃ n : Int, v = .int .u8 n ∧ 0 ≤ n ∧ n < 256 := by
  obtain ⟨n, rfl, _, _, hw⟩ := open_int Try.underlying5 hv h
  have h1 := Bool.and_eq_true_iff.1 hw
  have h2 : 0 ≤ n := of_decide_eq_true h1.1
  have h3 : n ≤ 255 := of_decide_eq_true h1.2
  exact ⟨n, rfl, h2, by omega⟩
end
set_option maxRecDepth 100000 in
set_option maxHeartbeats 2000000 in
theorem no (w : World) (a : Option Addr) (cap : Nat) (l : List Tk) (hT : Tasks w a l) (hl : l.length < 9223372036854775808) (hS : ∀ i, i < l.length → (tg l i).after.length < 9223372036854775808) (one two : Int) (da : Option Addr) (dc : Nat) (d : List Bool) (hno : ¬ FewT l ∨ FewT l ∧ ¬ VT l ∨ FewT l ∧ VT l ∧ l.length = 0 ∨ FewT l ∧ VT l ∧ 0 < l.length ∧ 60 < d.length ∨ FewT l ∧ VT l ∧ 0 < l.length ∧ d.length ≤ 60 ∧ (orderOf l).length < l.length) :
    Calls Try.prog 7 #[.slice a l.length cap, .int .u8 one, .int .u8 two, .slice da d.length dc] w (RetB (.bool true) w) := by
  have HS := Lib.hid (fun _ : l.length ≤ 45 => hS)
  have HS' := Lib.hid (fun _ : l.length ≤ 40 => hS)
  rcases hno with hf | ⟨hf, hv⟩ | ⟨hf, hv, hne⟩ | ⟨hf, hv, hp, h60⟩ | ⟨hf, hv, hp, h60, hor⟩
  · have HF := Lib.hid (show false = true ↔ FewT l by simp [hf])
    clear hf hS
    go_enter Try.func7, Try.ntmps7
    go_wp2_with fail
    refine Calls.mono (head_any _) ?_
    rintro e w1 ⟨rfl, hb1⟩; have hs1 := hb1.size; (try simp at hs1)
    go_wp2_with fail
    refine Calls.mono (few_any l false a cap _ (hT.later (by repeat (first | exact Below.refl _ _ | assumption | refine Below.drew ?_ | refine below_drewN ?_ _ | refine Below.alloc ?_ (by first | omega | (simp; done) | (simp; omega)) _ | refine Below.setCell ?_ (by first | omega | (simp; done) | (simp; omega)) _ | refine Below.trans ?_ (Below.mono (by assumption) (by first | omega | (simp; done) | (simp; omega)))))) hl HS.out HF.out) ?_
    rintro e w2 ⟨rfl, rfl⟩
    go_wp2_with fail
    go_ret
    exact retB rfl (by repeat (first | exact Below.refl _ _ | assumption | refine Below.drew ?_ | refine below_drewN ?_ _ | refine Below.alloc ?_ (by first | omega | (simp; done) | (simp; omega)) _ | refine Below.setCell ?_ (by first | omega | (simp; done) | (simp; omega)) _ | refine Below.trans ?_ (Below.mono (by assumption) (by first | omega | (simp; done) | (simp; omega)))))
  · have HF := Lib.hid (show true = true ↔ FewT l by simp [hf])
    have HV := Lib.hid (show false = true ↔ VT l by simp [hv])
    clear hf hS hv
    go_enter Try.func7, Try.ntmps7
    go_wp2_with fail
    refine Calls.mono (head_any _) ?_
    rintro e w1 ⟨rfl, hb1⟩; have hs1 := hb1.size; (try simp at hs1)
    go_wp2_with fail
    refine Calls.mono (few_any l true a cap _ (hT.later (by repeat (first | exact Below.refl _ _ | assumption | refine Below.drew ?_ | refine below_drewN ?_ _ | refine Below.alloc ?_ (by first | omega | (simp; done) | (simp; omega)) _ | refine Below.setCell ?_ (by first | omega | (simp; done) | (simp; omega)) _ | refine Below.trans ?_ (Below.mono (by assumption) (by first | omega | (simp; done) | (simp; omega)))))) hl HS.out (by simpa using HF.out)) ?_
    rintro e w2 ⟨rfl, rfl⟩
    go_wp2_with fail
    refine Calls.mono (rvalid_any l a cap false _ (hT.later (by repeat (first | exact Below.refl _ _ | assumption | refine Below.drew ?_ | refine below_drewN ?_ _ | refine Below.alloc ?_ (by first | omega | (simp; done) | (simp; omega)) _ | refine Below.setCell ?_ (by first | omega | (simp; done) | (simp; omega)) _ | refine Below.trans ?_ (Below.mono (by assumption) (by first | omega | (simp; done) | (simp; omega)))))) hl HS'.out (by simpa using HV.out)) ?_
    rintro e w3 ⟨rfl, hb3⟩
    have hs3 := hb3.size
    go_wp2_with fail
    go_ret
    exact retB rfl (by repeat (first | exact Below.refl _ _ | assumption | refine Below.drew ?_ | refine below_drewN ?_ _ | refine Below.alloc ?_ (by first | omega | (simp; done) | (simp; omega)) _ | refine Below.setCell ?_ (by first | omega | (simp; done) | (simp; omega)) _ | refine Below.trans ?_ (Below.mono (by assumption) (by first | omega | (simp; done) | (simp; omega)))))
  · have HF := Lib.hid (show true = true ↔ FewT l by simp [hf])
    have HV := Lib.hid (show true = true ↔ VT l by simp [hv])
    have e1 : ((l.length : Int) == 0) = true := by simp; exact List.eq_nil_of_length_eq_zero hne
    clear hf hS hv hne
    go_enter Try.func7, Try.ntmps7
    go_wp2_with fail
    refine Calls.mono (head_any _) ?_
    rintro e w1 ⟨rfl, hb1⟩; have hs1 := hb1.size; (try simp at hs1)
    go_wp2_with fail
    refine Calls.mono (few_any l true a cap _ (hT.later (by repeat (first | exact Below.refl _ _ | assumption | refine Below.drew ?_ | refine below_drewN ?_ _ | refine Below.alloc ?_ (by first | omega | (simp; done) | (simp; omega)) _ | refine Below.setCell ?_ (by first | omega | (simp; done) | (simp; omega)) _ | refine Below.trans ?_ (Below.mono (by assumption) (by first | omega | (simp; done) | (simp; omega)))))) hl HS.out (by simpa using HF.out)) ?_
    rintro e w2 ⟨rfl, rfl⟩
    go_wp2_with fail
    refine Calls.mono (rvalid_any l a cap true _ (hT.later (by repeat (first | exact Below.refl _ _ | assumption | refine Below.drew ?_ | refine below_drewN ?_ _ | refine Below.alloc ?_ (by first | omega | (simp; done) | (simp; omega)) _ | refine Below.setCell ?_ (by first | omega | (simp; done) | (simp; omega)) _ | refine Below.trans ?_ (Below.mono (by assumption) (by first | omega | (simp; done) | (simp; omega)))))) hl HS'.out (by simpa using HV.out)) ?_
    rintro e w3 ⟨rfl, hb3⟩
    have hs3 := hb3.size
    go_wp2_with fail
    go_ret
    exact retB rfl (by repeat (first | exact Below.refl _ _ | assumption | refine Below.drew ?_ | refine below_drewN ?_ _ | refine Below.alloc ?_ (by first | omega | (simp; done) | (simp; omega)) _ | refine Below.setCell ?_ (by first | omega | (simp; done) | (simp; omega)) _ | refine Below.trans ?_ (Below.mono (by assumption) (by first | omega | (simp; done) | (simp; omega)))))
  · have HF := Lib.hid (show true = true ↔ FewT l by simp [hf])
    have HV := Lib.hid (show true = true ↔ VT l by simp [hv])
    have e1 : ((l.length : Int) == 0) = false := by rw [beq_eq_false_iff_ne]; omega
    clear hf hS hv
    go_enter Try.func7, Try.ntmps7
    go_wp2_with fail
    refine Calls.mono (head_any _) ?_
    rintro e w1 ⟨rfl, hb1⟩; have hs1 := hb1.size; (try simp at hs1)
    go_wp2_with fail
    refine Calls.mono (few_any l true a cap _ (hT.later (by repeat (first | exact Below.refl _ _ | assumption | refine Below.drew ?_ | refine below_drewN ?_ _ | refine Below.alloc ?_ (by first | omega | (simp; done) | (simp; omega)) _ | refine Below.setCell ?_ (by first | omega | (simp; done) | (simp; omega)) _ | refine Below.trans ?_ (Below.mono (by assumption) (by first | omega | (simp; done) | (simp; omega)))))) hl HS.out (by simpa using HF.out)) ?_
    rintro e w2 ⟨rfl, rfl⟩
    go_wp2_with fail
    refine Calls.mono (rvalid_any l a cap true _ (hT.later (by repeat (first | exact Below.refl _ _ | assumption | refine Below.drew ?_ | refine below_drewN ?_ _ | refine Below.alloc ?_ (by first | omega | (simp; done) | (simp; omega)) _ | refine Below.setCell ?_ (by first | omega | (simp; done) | (simp; omega)) _ | refine Below.trans ?_ (Below.mono (by assumption) (by first | omega | (simp; done) | (simp; omega)))))) hl HS'.out (by simpa using HV.out)) ?_
    rintro e w3 ⟨rfl, hb3⟩
    have hs3 := hb3.size
    go_wp2_with fail
    go_ret
    exact retB rfl (by repeat (first | exact Below.refl _ _ | assumption | refine Below.drew ?_ | refine below_drewN ?_ _ | refine Below.alloc ?_ (by first | omega | (simp; done) | (simp; omega)) _ | refine Below.setCell ?_ (by first | omega | (simp; done) | (simp; omega)) _ | refine Below.trans ?_ (Below.mono (by assumption) (by first | omega | (simp; done) | (simp; omega)))))
  · have HF := Lib.hid (show true = true ↔ FewT l by simp [hf])
    have HV := Lib.hid hv
    have e1 : ((l.length : Int) == 0) = false := by rw [beq_eq_false_iff_ne]; omega
    have HE := Lib.hid (show critL l = 0 ∧ ordE l = 24 by unfold critL ordE; rw [if_pos hor, if_pos hor]; exact ⟨rfl, rfl⟩)
    clear hf hS hv hor
    go_enter Try.func7, Try.ntmps7
    go_wp2_with fail
    refine Calls.mono (head_any _) ?_
    rintro e w1 ⟨rfl, hb1⟩; have hs1 := hb1.size; (try simp at hs1)
    go_wp2_with fail
    refine Calls.mono (few_any l true a cap _ (hT.later (by repeat (first | exact Below.refl _ _ | assumption | refine Below.drew ?_ | refine below_drewN ?_ _ | refine Below.alloc ?_ (by first | omega | (simp; done) | (simp; omega)) _ | refine Below.setCell ?_ (by first | omega | (simp; done) | (simp; omega)) _ | refine Below.trans ?_ (Below.mono (by assumption) (by first | omega | (simp; done) | (simp; omega)))))) hl HS.out (by simpa using HF.out)) ?_
    rintro e w2 ⟨rfl, rfl⟩
    go_wp2_with fail
    refine Calls.mono (rvalid_any l a cap true _ (hT.later (by repeat (first | exact Below.refl _ _ | assumption | refine Below.drew ?_ | refine below_drewN ?_ _ | refine Below.alloc ?_ (by first | omega | (simp; done) | (simp; omega)) _ | refine Below.setCell ?_ (by first | omega | (simp; done) | (simp; omega)) _ | refine Below.trans ?_ (Below.mono (by assumption) (by first | omega | (simp; done) | (simp; omega)))))) hl HS'.out (by simp [HV.out])) ?_
    rintro e w3 ⟨rfl, hb3⟩
    have hs3 := hb3.size
    have hk3 : Below w.heap.size w w3 := (by repeat (first | exact Below.refl _ _ | assumption | refine Below.drew ?_ | refine below_drewN ?_ _ | refine Below.alloc ?_ (by first | omega | (simp; done) | (simp; omega)) _ | refine Below.setCell ?_ (by first | omega | (simp; done) | (simp; omega)) _ | refine Below.trans ?_ (Below.mono (by assumption) (by first | omega | (simp; done) | (simp; omega)))))
    have c := critical_yes l a cap w3 (hT.later hk3) hl HS'.out HV.out
    rw [HE.out.1, HE.out.2] at c
    have HC := Lib.hid c
    clear c
    go_wp2_with fail
    refine Calls.mono HC.out ?_
    rintro e w4 ⟨rfl, hb4⟩
    have hs4 := hb4.size
    go_wp2_with fail
    go_ret
    exact retB rfl (hk3.trans (hb4.mono (by omega)))

set_option maxRecDepth 100000 in
set_option maxHeartbeats 8000000 in
theorem yes (w : World) (a : Option Addr) (cap : Nat) (l : List Tk) (hT : Tasks w a l) (hl : l.length < 9223372036854775808) (hS : ∀ i, i < l.length → (tg l i).after.length < 9223372036854775808) (one two : Int) (ho1 : 0 ≤ one ∧ one < 256) (ho2 : 0 ≤ two ∧ two < 256) (da : Option Addr) (dc : Nat) (d : List Bool) (hD : Bools w da d) (hf : FewT l) (hv : VT l) (hp : 0 < l.length) (h60 : d.length ≤ 60) (hor : ¬ (orderOf l).length < l.length) :
    Calls Try.prog 7 #[.slice a l.length cap, .int .u8 one, .int .u8 two, .slice da d.length dc] w (RetB (.bool true) w) := by
  have HS := Lib.hid (fun _ : l.length ≤ 45 => hS)
  have HS' := Lib.hid (fun _ : l.length ≤ 40 => hS)
  have HSS := Lib.hid hS
  have HF := Lib.hid (show true = true ↔ FewT l by simp [hf])
  have HV := Lib.hid hv
  have h40 := hv.1
  have e1 : ((l.length : Int) == 0) = false := by rw [beq_eq_false_iff_ne]; omega
  have hcl : critL l = crit l := by unfold critL; rw [if_neg hor]
  have hoe : ordE l = 0 := by unfold ordE; rw [if_neg hor]
  obtain ⟨N, hN⟩ : ∃ N, N = crit l := ⟨_, rfl⟩
  have HN := Lib.hid hN
  have HN1 := Lib.hid (show ∀ i, i < l.length → (tg l i).hours ≤ N from fun i hi => by rw [hN]; exact crit_own hv hor hi)
  have HN2 := Lib.hid (show ∀ i k, Dep l i k → (tg l i).hours + (tg l k).hours ≤ N from fun i k hd => by rw [hN]; exact crit_two hv hor hd)
  have HN3 := Lib.hid (show N ≤ hsum l l.length by rw [hN]; exact crit_sum hv hor)
  have HOR := Lib.hid hor
  rw [← hN] at hcl
  have HCL := Lib.hid hcl
  have HOE := Lib.hid hoe
  have hm0 : 0 ≤ one % (l.length : Int) := Int.emod_nonneg _ (by omega)
  have hm1 : one % (l.length : Int) < (l.length : Int) := Int.emod_lt_of_pos _ (by omega)
  obtain ⟨A, hA⟩ : ∃ A : Nat, one % (l.length : Int) = (A : Int) := ⟨(one % (l.length : Int)).toNat, by omega⟩
  have hAl : A < l.length := by omega
  have hm2 : 0 ≤ two % (l.length : Int) := Int.emod_nonneg _ (by omega)
  have hm3 : two % (l.length : Int) < (l.length : Int) := Int.emod_lt_of_pos _ (by omega)
  obtain ⟨B, hB⟩ : ∃ B : Nat, two % (l.length : Int) = (B : Int) := ⟨(two % (l.length : Int)).toNat, by omega⟩
  have hBl : B < l.length := by omega
  have A1 : (A : Int) < (l.length : Int) := by omega
  clear hf hS hv hcl hoe hN hor hm0 hm1 hm2 hm3
  go_enter Try.func7, Try.ntmps7
  go_wp2_with fail
  refine Calls.mono (head_any _) ?_
  rintro e w1 ⟨rfl, hb1⟩; have hs1 := hb1.size; (try simp at hs1)
  go_wp2_with fail
  refine Calls.mono (few_any l true a cap _ (hT.later (by repeat (first | exact Below.refl _ _ | assumption | refine Below.drew ?_ | refine below_drewN ?_ _ | refine Below.alloc ?_ (by first | omega | (simp; done) | (simp; omega)) _ | refine Below.setCell ?_ (by first | omega | (simp; done) | (simp; omega)) _ | refine Below.trans ?_ (Below.mono (by assumption) (by first | omega | (simp; done) | (simp; omega)))))) hl HS.out (by simpa using HF.out)) ?_
  rintro e w2 ⟨rfl, rfl⟩
  go_wp2_with fail
  refine Calls.mono (rvalid_any l a cap true _ (hT.later (by repeat (first | exact Below.refl _ _ | assumption | refine Below.drew ?_ | refine below_drewN ?_ _ | refine Below.alloc ?_ (by first | omega | (simp; done) | (simp; omega)) _ | refine Below.setCell ?_ (by first | omega | (simp; done) | (simp; omega)) _ | refine Below.trans ?_ (Below.mono (by assumption) (by first | omega | (simp; done) | (simp; omega)))))) hl HS'.out (by simp [HV.out])) ?_
  rintro e w3 ⟨rfl, hb3⟩
  have hs3 := hb3.size
  have hk3 : Below w.heap.size w w3 := (by repeat (first | exact Below.refl _ _ | assumption | refine Below.drew ?_ | refine below_drewN ?_ _ | refine Below.alloc ?_ (by first | omega | (simp; done) | (simp; omega)) _ | refine Below.setCell ?_ (by first | omega | (simp; done) | (simp; omega)) _ | refine Below.trans ?_ (Below.mono (by assumption) (by first | omega | (simp; done) | (simp; omega)))))
  have c := critical_yes l a cap w3 (hT.later hk3) hl HS'.out HV.out
  rw [HCL.out, HOE.out] at c
  have HC := Lib.hid c
  clear c hb3 hb1
  go_wp2_with fail
  refine Calls.mono HC.out ?_
  rintro e w4 ⟨rfl, hb4⟩
  have hs4 := hb4.size
  have hk4 : Below w.heap.size w w4 := hk3.trans (hb4.mono (by omega))
  clear hb4 hk3 HC
  go_wp2_with fail
  go_loopg [12, 13] (l.length + 1) (fun k v12 v13 wr => ∃ i : Nat, i ≤ l.length ∧ k + i = l.length + 1 ∧ v12 = .int .i64 (hsum l i) ∧ v13 = .int .i64 i ∧ Below w4.heap.size w4 wr)
  case atStart => exact ⟨0, by omega, by omega, rfl, rfl, Below.refl _ _⟩
  case round =>
    obtain ⟨ko, rfl⟩ : ∃ ko : Nat, ko = gk := ⟨_, rfl⟩
    obtain ⟨wo, rfl⟩ : ∃ wo : World, wo = wr := ⟨_, rfl⟩
    obtain ⟨i, hil, hki, rfl, rfl, hbel⟩ := hrel
    have hsz := hbel.size
    have hko : Below w.heap.size w wo := hk4.trans (hbel.mono (by omega))
    obtain ⟨sb1, sb2⟩ := hsum_bound HV.out i hil
    by_cases hlt : i < l.length
    · have HSU := Lib.hid (hsum_succ l i)
      obtain ⟨s, hs⟩ : ∃ s, s = hsum l i := ⟨_, rfl⟩
      rw [← hs] at sb1 sb2 ⊢
      obtain ⟨b, off, aa, ac, rfl, c0, c1, c2, c3, hIa⟩ := (hT.later hko) i hlt
      obtain ⟨t, ht⟩ : ∃ t, t = tg l i := ⟨_, rfl⟩
      have hhi := HN1.out i hlt
      obtain ⟨hh1, hh2, _⟩ := HV.out.2 i hlt
      have hal := after_len HV.out hlt
      rw [← ht] at c0 c1 c2 c3 hIa hhi hh1 hh2 hal
      have HT := Lib.hid ht
      have HSE := Lib.hid hs
      have hwr : IntKind.i64.wrap (s + t.hours) = s + t.hours := IntWalk.i64_in _ (by omega)
      have hdn : decide (N < t.hours) = false := by simp; omega
      have i1 : (i : Int) < (l.length : Int) := by omega
      clear ht hs
      go_wp2_with fail
      go_loopg [14] (t.after.length + 1) (fun k v14 wr => ∃ q : Nat, q ≤ t.after.length ∧ k + q = t.after.length + 1 ∧ v14 = .int .i64 q ∧ Below wo.heap.size wo wr)
      case atStart => exact ⟨0, by omega, by omega, rfl, Below.refl _ _⟩
      case round =>
        obtain ⟨wq, rfl⟩ : ∃ wq : World, wq = wr := ⟨_, rfl⟩
        obtain ⟨q, hql, hkq, rfl, hbq⟩ := hrel
        have hszq := hbq.size
        have d0 := cell_later hbq c0
        have d1 := cell_later hbq c1
        have d2 := cell_later hbq c2
        have d3 := cell_later hbq c3
        have HC0 := Lib.hid c0
        have HC3 := Lib.hid c3
        clear c0 c1 c2 c3
        by_cases hlq : q < t.after.length
        · obtain ⟨ab, aoff, rfl, fa⟩ := (hIa.later hbq).fam (by omega)
          have g12 := good_in ((HV.out.2 i hlt).2.2.2.2) (r := q) (by rw [← HT.out]; exact hlq)
          rw [← HT.out] at g12
          obtain ⟨m, hm⟩ : ∃ m : Nat, ig t.after q = (m : Int) := ⟨(ig t.after q).toNat, by omega⟩
          have hml : m < l.length := by omega
          have hcq : wq.cell? ⟨ab, aoff + q, none⟩ = some (.int .i64 (m : Int)) := by rw [fa q hlq, hm]
          obtain ⟨_, _, _, _, hbe, k0, _, _, _, _⟩ := (hT.later (hko.trans (hbq.mono (by omega)))) m hml
          cases hbe
          obtain ⟨y, hy⟩ : ∃ y, y = (tg l m).hours := ⟨_, rfl⟩
          obtain ⟨hy1, hy2, _⟩ := HV.out.2 m hml
          have h2 := HN2.out i m ⟨q, by rw [← HT.out]; exact hlq, by rw [← HT.out, hm, Int.toNat_natCast]⟩
          rw [← HT.out, ← hy] at h2
          rw [← hy] at k0 hy1 hy2
          have hwy : IntKind.i64.wrap (t.hours + y) = t.hours + y := IntWalk.i64_in _ (by omega)
          have hdy : decide (N < t.hours + y) = false := by simp; omega
          have m1 : (m : Int) < (l.length : Int) := by omega
          have q1 : (q : Int) < (t.after.length : Int) := by omega
          clear fa g12 hm hy h2
          go_wp2_with fail
          go_quiet (fail)
          go_wp2_with fail
          go_roundg (gk - 1)
          case measure => omega
          case rel => exact ⟨q + 1, by omega, by omega, by go_num, (by repeat (first | exact Below.refl _ _ | assumption | refine Below.drew ?_ | refine below_drewN ?_ _ | refine Below.alloc ?_ (by first | omega | (simp; done) | (simp; omega)) _ | refine Below.setCell ?_ (by first | omega | (simp; done) | (simp; omega)) _ | refine Below.trans ?_ (Below.mono (by assumption) (by first | omega | (simp; done) | (simp; omega)))))⟩
        · go_wp2_with fail
          go_roundg (ko - 1)
          case measure => omega
          case rel => exact ⟨i + 1, by omega, by omega, by rw [HSU.out, ← HSE.out, HT.out], by go_num, hbel.trans (hbq.mono (by omega))⟩
    · obtain rfl : i = l.length := by omega
      obtain ⟨S, hSs⟩ : ∃ S, S = hsum l l.length := ⟨_, rfl⟩
      have hNS : N ≤ S := by rw [hSs]; exact HN3.out
      rw [← hSs] at sb1 sb2 ⊢
      have hdS : decide (N ≤ S) = true := by simpa using hNS
      clear hSs hbel hk4
      go_wp2_with fail
      go_quiet (fail)
      rw [hA, hB]
      obtain ⟨wv, hwv⟩ : ∃ wv, wv = wo.drewN nq := ⟨_, rfl⟩
      rw [← hwv]
      have hkv : Below w.heap.size w wv := by rw [hwv]; exact below_drewN hko _
      have hszv : wo.heap.size ≤ wv.heap.size := by rw [hwv]; exact Nat.le_refl _
      clear hwv hko hA hB
      go_wp2_with (at_builtin; go_must (refine append_tasks _ rfl _ _ rfl wv rfl rfl l a cap rfl (hT.later hkv) hp (by omega) ?_); intro g cp w5 L0 hL0 ho5 hb5)
      have hs5 := hb5.size
      have hk5 : Below w.heap.size w w5 := hkv.trans (hb5.mono (by omega))
      have hg5 := ho5.lt
      have hLl : L0.length = l.length := by rw [← hL0]; simp
      have HL0 := Lib.hid hL0
      have HLL := Lib.hid hLl
      clear hL0 hLl hb5 hkv
      go_loopg [18, 19] (l.length + 1) (fun k v18 v19 wr => ∃ i : Nat, i ≤ l.length ∧ k + i = l.length + 1 ∧ v19 = .int .i64 i ∧ Below w5.heap.size w5 wr ∧ OwnI wr w5.heap.size v18 (aft l A B i))
      case atStart => exact ⟨0, by omega, by omega, rfl, Below.refl _ _, OwnI.nil _ _⟩
      case round =>
        obtain ⟨ko, rfl⟩ : ∃ ko : Nat, ko = gk := ⟨_, rfl⟩
        obtain ⟨wp, rfl⟩ : ∃ wp : World, wp = wr := ⟨_, rfl⟩
        obtain ⟨i, hil, hki, rfl, hbp, hown⟩ := hrel
        have hszp := hbp.size
        have hal := after_len HV.out hAl
        have hafl := aft_len l A B i
        have hkp : Below w.heap.size w wp := hk5.trans (hbp.mono (by omega))
        by_cases hlt : i < l.length
        · obtain ⟨b0, hb0⟩ : ∃ b0 : Bool, ((i : Int) == (B : Int)) = b0 := ⟨_, rfl⟩
          have hb0' : b0 = true ↔ i = B := by rw [← hb0]; simp; omega
          have HB0 := Lib.hid hb0'
          clear hb0'
          go_wp2_with fail
          go_loopg [20, 21] ((tg l A).after.length + 1) (fun k v20 v21 wr => ∃ (q : Nat) (b : Bool), q ≤ (tg l A).after.length ∧ k + q = (tg l A).after.length + 1 ∧ v20 = .bool b ∧ v21 = .int .i64 q ∧ Below wp.heap.size wp wr ∧ (b = true ↔ i = B ∨ ∃ q', q' < q ∧ ig (tg l A).after q' = i))
          case atStart => exact ⟨0, b0, by omega, by omega, rfl, rfl, Below.refl _ _, ⟨fun h => .inl (HB0.out.1 h), fun h => HB0.out.2 (h.resolve_right fun ⟨q', h, _⟩ => absurd h (by omega))⟩⟩
          case round =>
            obtain ⟨wq, rfl⟩ : ∃ wq : World, wq = wr := ⟨_, rfl⟩
            obtain ⟨q, b, hql, hkq, rfl, rfl, hbq, hiff⟩ := hrel
            have hszq := hbq.size
            have HIF := Lib.hid hiff
            clear hiff
            have hkq : Below w.heap.size w wq := hkp.trans (hbq.mono (by omega))
            obtain ⟨bb, off, aa, ac, rfl, c0, c1, c2, c3, hIa⟩ := (hT.later hkq) A hAl
            by_cases hlq : q < (tg l A).after.length
            · obtain ⟨ab, aoff, rfl, fa⟩ := hIa.fam (by omega)
              have hcq := fa q hlq
              obtain ⟨x, hx⟩ : ∃ x, ig (tg l A).after q = x := ⟨_, rfl⟩
              rw [hx] at hcq
              have HX := Lib.hid hx
              have q1 : (q : Int) < ((tg l A).after.length : Int) := by omega
              clear fa hx
              cases b
              · by_cases hxi : x = (i : Int)
                · have heq : (x == (i : Int)) = true := by simpa using hxi
                  have HXI := Lib.hid hxi
                  clear hxi
                  go_wp2_with fail
                  go_roundg (gk - 1)
                  case measure => omega
                  case rel => exact ⟨q + 1, true, by omega, by omega, rfl, by go_num, (by repeat (first | exact Below.refl _ _ | assumption | refine Below.drew ?_ | refine below_drewN ?_ _ | refine Below.alloc ?_ (by first | omega | (simp; done) | (simp; omega)) _ | refine Below.setCell ?_ (by first | omega | (simp; done) | (simp; omega)) _ | refine Below.trans ?_ (Below.mono (by assumption) (by first | omega | (simp; done) | (simp; omega))))), fun _ => .inr ⟨q, by omega, by rw [HX.out, HXI.out]⟩, fun _ => rfl⟩
                · have heq : (x == (i : Int)) = false := by simpa using hxi
                  have HXI := Lib.hid hxi
                  clear hxi
                  go_wp2_with fail
                  go_roundg (gk - 1)
                  case measure => omega
                  case rel => exact ⟨q + 1, false, by omega, by omega, rfl, by go_num, (by repeat (first | exact Below.refl _ _ | assumption | refine Below.drew ?_ | refine below_drewN ?_ _ | refine Below.alloc ?_ (by first | omega | (simp; done) | (simp; omega)) _ | refine Below.setCell ?_ (by first | omega | (simp; done) | (simp; omega)) _ | refine Below.trans ?_ (Below.mono (by assumption) (by first | omega | (simp; done) | (simp; omega))))), fun h => (by cases h), fun h => by
                    have h2 : i = B ∨ ∃ q', q' < q ∧ ig (tg l A).after q' = i := by
                      rcases h with h | ⟨q', h1, h2⟩
                      · exact .inl h
                      · by_cases e : q' = q
                        · subst e; rw [HX.out] at h2; exact absurd h2 HXI.out
                        · exact .inr ⟨q', by omega, h2⟩
                    have := HIF.out.2 h2
                    simp at this⟩
              · go_wp2_with fail
                go_roundg (gk - 1)
                case measure => omega
                case rel => exact ⟨q + 1, true, by omega, by omega, rfl, by go_num, (by repeat (first | exact Below.refl _ _ | assumption | refine Below.drew ?_ | refine below_drewN ?_ _ | refine Below.alloc ?_ (by first | omega | (simp; done) | (simp; omega)) _ | refine Below.setCell ?_ (by first | omega | (simp; done) | (simp; omega)) _ | refine Below.trans ?_ (Below.mono (by assumption) (by first | omega | (simp; done) | (simp; omega))))), fun _ => by
                  rcases HIF.out.1 (by first | rfl | trivial) with h | ⟨q', h1, h2⟩
                  · exact .inl h
                  · exact .inr ⟨q', by omega, h2⟩, fun _ => rfl⟩
            · obtain rfl : q = (tg l A).after.length := by omega
              have hin : b = inn l A B i := by
                rw [Bool.eq_iff_iff, inn_iff]
                exact HIF.out
              have hownq := hown.later hbq
              have hbpq : Below w5.heap.size w5 wq := hbp.trans (hbq.mono (by omega))
              have HIN := Lib.hid hin
              clear hin hown hbp
              cases b
              · go_wp2_with fail
                go_roundg (ko - 1)
                case measure => omega
                case rel => exact ⟨i + 1, by omega, by omega, by go_num, hbpq, by rw [aft_no (by first | exact HIN.out.symm | simpa using HIN.out)]; exact hownq⟩
              · go_wp2_with (at_builtin; go_must (refine append_int _ rfl _ _ rfl w5.heap.size u18 (aft l A B i) (i : Int) rfl ?_ _ _ rfl ?_ (by omega) ?_ ?_); go_must (exact hownq.later (by repeat (first | exact Below.refl _ _ | assumption | refine Below.drew ?_ | refine below_drewN ?_ _ | refine Below.alloc ?_ (by first | omega | (simp; done) | (simp; omega)) _ | refine Below.setCell ?_ (by first | omega | (simp; done) | (simp; omega)) _ | refine Below.trans ?_ (Below.mono (by assumption) (by first | omega | (simp; done) | (simp; omega)))))); go_must (simp [go_sem]); go_must (simp; omega); intro v2 w6 hi6 hg6)
                have hown2 := hownq.later (w1 := wq.alloc (.cells #[.int .i64 i] 3)) (by repeat (first | exact Below.refl _ _ | assumption | refine Below.drew ?_ | refine below_drewN ?_ _ | refine Below.alloc ?_ (by first | omega | (simp; done) | (simp; omega)) _ | refine Below.setCell ?_ (by first | omega | (simp; done) | (simp; omega)) _ | refine Below.trans ?_ (Below.mono (by assumption) (by first | omega | (simp; done) | (simp; omega)))))
                have hbx : Below w5.heap.size w5 (wq.alloc (.cells #[.int .i64 i] 3)) := (by repeat (first | exact Below.refl _ _ | assumption | refine Below.drew ?_ | refine below_drewN ?_ _ | refine Below.alloc ?_ (by first | omega | (simp; done) | (simp; omega)) _ | refine Below.setCell ?_ (by first | omega | (simp; done) | (simp; omega)) _ | refine Below.trans ?_ (Below.mono (by assumption) (by first | omega | (simp; done) | (simp; omega)))))
                have hbz := hbx.grown hg6 (by simp; omega) (fun k hk => (World.ownsRow.lt hown2 k hk).1)
                go_wp2_with fail
                go_roundg (ko - 1)
                case measure => omega
                case rel => exact ⟨i + 1, by omega, by omega, by go_num, hbz, by rw [aft_yes (by first | exact HIN.out.symm | simpa using HIN.out)]; exact hi6⟩
        · obtain rfl : i = l.length := by omega
          obtain ⟨oa, oc, rfl, hIa, hob⟩ := hown.ints
          have hAL : A < L0.length := by have := HLL.out; omega
          have hop := ho5.later hbp
          have hgp := hop.lt
          have hfar : FarI wp g oa (aft l A B l.length) := fun j hj => by
            obtain ⟨b, off, ha, hc⟩ := hIa j hj
            have := (hob b (by rw [ha]; rfl)).1
            exact ⟨b, off, ha, by omega, hc⟩
          have c3 : wp.cell? ⟨g, A * 4 + 3, none⟩ = some (.slice (rg L0 A).aa (rg L0 A).t.after.length (rg L0 A).ac) := hop.cell hAL (j := 3) (by omega)
          have f3 := hop.free (A * 4 + 3)
          have hset := (hop.set hAL (aft l A B l.length) oa oc hfar).tasks
          have hrt : (rg L0 A).t = tg l A := by
            rw [← HL0.out]
            simp [rg, tg, List.getD, hAL]
          have hmap : (L0.set A (upd (rg L0 A) (aft l A B l.length) oa oc)).map (·.t) = exn l A B := by
            rw [List.map_set, HL0.out]
            unfold exn upd
            rw [hrt]
          rw [hmap] at hset
          obtain ⟨m, hm⟩ : ∃ m, m = exn l A B := ⟨_, rfl⟩
          have hmv : VT m := by rw [hm]; exact exn_valid HV.out hAl
          have hml : m.length = l.length := by rw [hm, exn_len]
          have hmS : ∀ i, i < m.length → (tg m i).after.length < 9223372036854775808 := fun i hi => by have := after_len hmv hi; omega
          rw [← hm] at hset
          obtain ⟨M, hM⟩ : ∃ M, M = critL m := ⟨_, rfl⟩
          obtain ⟨E, hE⟩ : ∃ E, E = ordE m := ⟨_, rfl⟩
          have hEM : E = 24 ∨ E = 0 ∧ N ≤ M := by
            rw [hE, hM]
            unfold ordE critL
            by_cases hc : (orderOf m).length < m.length
            · rw [if_pos hc]; exact .inl rfl
            · rw [if_neg hc, if_neg hc]
              refine .inr ⟨rfl, ?_⟩
              rw [HN.out]
              exact crit_mono HV.out hmv hml (fun i k h => by rw [hm]; exact exn_dep HV.out hAl i k h) (fun i => by rw [hm]; exact exn_hours hAl i) HOR.out hc
          obtain ⟨w7, hw7⟩ : ∃ w7, w7 = wp.setCell ⟨g, A * 4 + 3, none⟩ (.slice oa (aft l A B l.length).length oc) := ⟨_, rfl⟩
          rw [← hw7] at hset
          have hsz7 : wp.heap.size ≤ w7.heap.size := by rw [hw7]; simp
          have hk7 : Below w.heap.size w w7 := by rw [hw7]; exact hkp.setCell (by change w.heap.size ≤ g; omega) _
          obtain ⟨W, hW⟩ : ∃ W, W = rL l d := ⟨_, rfl⟩
          obtain ⟨I, hI⟩ : ∃ I, I = rL m d := ⟨_, rfl⟩
          obtain ⟨p, hpd⟩ : ∃ p : Int → Bool, p = fun x => rdy m d x.toNat := ⟨_, rfl⟩
          have hIW : I = W.filter p := by rw [hI, hW, hpd, hm]; exact rL_filter HV.out hAl d
          have hWl : W.length ≤ 40 := by rw [hW]; exact rL_len l d
          have hIl : I.length ≤ 40 := by rw [hI]; exact rL_len m d
          have c := critical_yes m (some ⟨g, 0, none⟩) cp w7 hset (by omega) (fun _ => hmS) hmv
          rw [← hM, ← hE, hml] at c
          have HC := Lib.hid c
          have HW7 := Lib.hid hw7
          have HMS := Lib.hid hmS
          have HEM := Lib.hid hEM
          have HIW := Lib.hid hIW
          have HWR := Lib.hid hW
          have HIR := Lib.hid hI
          have HML := Lib.hid hml
          have HTM := Lib.hid hset
          clear c hw7 hmS hEM hIW hW hI hM hE hmap hrt hset hpd hm hml hIa hob hfar hown
          go_wp2_with fail
          rw [← HW7.out]
          clear c3 f3 hop hgp
          go_wp2_with fail
          refine Calls.mono HC.out ?_
          rintro e w8 ⟨rfl, hb8⟩
          have hs8 := hb8.size
          have hk8 : Below w.heap.size w w8 := hk7.trans (hb8.mono (by omega))
          have hT8 := HTM.out.later hb8
          have c := (ready_all l a cap w8 (hT.later hk8) hl HSS.out d da dc (hD.later hk8)).1
          rw [← HWR.out] at c
          have HC9 := Lib.hid c
          clear c hb8 hk7 HC
          go_wp2_with fail
          refine Calls.mono HC9.out ?_
          rintro e w9 ⟨wa, wc, rfl, hW9, hb9⟩
          have hs9 := hb9.size
          have hk9 : Below w.heap.size w w9 := hk8.trans (hb9.mono (by omega))
          have hT9 := hT8.later hb9
          have c := (ready_all m (some ⟨g, 0, none⟩) cp w9 hT9 (by have := HML.out; omega) HMS.out d da dc (hD.later hk9)).1
          rw [← HIR.out, HML.out] at c
          have HC10 := Lib.hid c
          clear c hb9 hk8 HC9 hT8
          go_wp2_with fail
          refine Calls.mono HC10.out ?_
          rintro e w10 ⟨ia, ic, rfl, hI10, hb10⟩
          have hs10 := hb10.size
          have hk10 : Below w.heap.size w w10 := hk9.trans (hb10.mono (by omega))
          have hW10 := hW9.later hb10
          clear hb10 hk9 HC10 hT9 hW9 HTM
          go_wp2_with fail
          go_loopg [26, 27] (W.length + 1) (fun k v26 v27 wr => ∃ i : Nat, i ≤ W.length ∧ k + i = W.length + 1 ∧ v26 = .int .i64 (Jn p W i : Int) ∧ v27 = .int .i64 i ∧ Below w10.heap.size w10 wr)
          case atStart => exact ⟨0, by omega, by omega, by unfold Jn; simp, rfl, Below.refl _ _⟩
          case round =>
            obtain ⟨wz, rfl⟩ : ∃ wz : World, wz = wr := ⟨_, rfl⟩
            obtain ⟨i, hil, hki, rfl, rfl, hbz⟩ := hrel
            have hszz := hbz.size
            by_cases hlt : i < W.length
            · obtain ⟨wb, woff, rfl, fw⟩ := (hW10.later hbz).fam (by omega)
              have hwi := fw i hlt
              have hI11 := hI10.later hbz
              have i1 : (i : Int) < (W.length : Int) := by omega
              obtain ⟨q, hq⟩ : ∃ q, q = Jn p W i := ⟨_, rfl⟩
              have hqi : q ≤ i := by rw [hq]; exact Jn_le p W i
              rw [← hq]
              cases hpx : p (ig W i)
              · obtain ⟨n1, n2⟩ := Jn_no hlt hpx
                rw [← HIW.out] at n2
                rw [← hq] at n1
                have HN1' := Lib.hid n1
                obtain ⟨x, hx⟩ : ∃ x, ig W i = x := ⟨_, rfl⟩
                rw [hx] at hwi n2
                by_cases hqI : q < I.length
                · obtain ⟨ib, ioff, rfl, fi⟩ := hI11.fam (by omega)
                  have hiq := fi q hqI
                  have hne := n2 q hqI
                  obtain ⟨y, hy⟩ : ∃ y, ig I q = y := ⟨_, rfl⟩
                  rw [hy] at hiq hne
                  have heq : (y == x) = false := by simpa using hne
                  have q1 : (q : Int) < (I.length : Int) := by omega
                  have q2 : decide (q < I.length) = true := by simpa using hqI
                  clear fw fi hpx n1 n2 hx hy hne hq hI11
                  go_wp2_with fail
                  go_quiet (fail)
                  go_wp2_with fail
                  go_roundg (gk - 1)
                  case measure => omega
                  case rel => exact ⟨i + 1, by omega, by omega, by rw [HN1'.out], by go_num, (by repeat (first | exact Below.refl _ _ | assumption | refine Below.drew ?_ | refine below_drewN ?_ _ | refine Below.alloc ?_ (by first | omega | (simp; done) | (simp; omega)) _ | refine Below.setCell ?_ (by first | omega | (simp; done) | (simp; omega)) _ | refine Below.trans ?_ (Below.mono (by assumption) (by first | omega | (simp; done) | (simp; omega)))))⟩
                · have q2 : decide (q < I.length) = false := by simpa using hqI
                  clear fw hpx n1 n2 hx hq hI11
                  go_wp2_with fail
                  go_quiet (fail)
                  go_wp2_with fail
                  go_roundg (gk - 1)
                  case measure => omega
                  case rel => exact ⟨i + 1, by omega, by omega, by rw [HN1'.out], by go_num, (by repeat (first | exact Below.refl _ _ | assumption | refine Below.drew ?_ | refine below_drewN ?_ _ | refine Below.alloc ?_ (by first | omega | (simp; done) | (simp; omega)) _ | refine Below.setCell ?_ (by first | omega | (simp; done) | (simp; omega)) _ | refine Below.trans ?_ (Below.mono (by assumption) (by first | omega | (simp; done) | (simp; omega)))))⟩
              · obtain ⟨n1, n2, n3⟩ := Jn_yes hlt hpx
                rw [← HIW.out, ← hq] at n2 n3
                rw [← hq] at n1
                have HN1' := Lib.hid n1
                obtain ⟨ib, ioff, rfl, fi⟩ := hI11.fam (by omega)
                have hiq := fi q n2
                rw [n3] at hiq
                obtain ⟨x, hx⟩ : ∃ x, ig W i = x := ⟨_, rfl⟩
                rw [hx] at hwi hiq
                have heq : (x == x) = true := by simp
                have q1 : (q : Int) < (I.length : Int) := by omega
                have q2 : decide (q < I.length) = true := by simpa using n2
                clear fw fi hpx n1 n3 hx hq hI11
                go_wp2_with fail
                go_quiet (fail)
                go_wp2_with fail
                go_roundg (gk - 1)
                case measure => omega
                case rel => exact ⟨i + 1, by omega, by omega, by rw [HN1'.out]; go_num, by go_num, (by repeat (first | exact Below.refl _ _ | assumption | refine Below.drew ?_ | refine below_drewN ?_ _ | refine Below.alloc ?_ (by first | omega | (simp; done) | (simp; omega)) _ | refine Below.setCell ?_ (by first | omega | (simp; done) | (simp; omega)) _ | refine Below.trans ?_ (Below.mono (by assumption) (by first | omega | (simp; done) | (simp; omega)))))⟩
            · obtain rfl : i = W.length := by omega
              rw [Jn_all, ← HIW.out]
              have hii : ((I.length : Int) == (I.length : Int)) = true := by simp
              rcases HEM.out with rfl | ⟨rfl, hNM⟩
              · go_wp2_with fail
                go_ret
                exact retB rfl (hk10.trans (hbz.mono (by omega)))
              · have hdM : decide (N ≤ M) = true := by simpa using hNM
                go_wp2_with fail
                go_ret
                exact retB rfl (hk10.trans (hbz.mono (by omega)))
theorem walk (w : World) (a : Option Addr) (cap : Nat) (l : List Tk) (hT : Tasks w a l) (hl : l.length < 9223372036854775808) (hS : ∀ i, i < l.length → (tg l i).after.length < 9223372036854775808) (one : Int) (ho1 : 0 ≤ one ∧ one < 256) (two : Int) (ho2 : 0 ≤ two ∧ two < 256) (da : Option Addr) (dc : Nat) (d : List Bool) (hD : Bools w da d) (_hd2 : d.length < 9223372036854775808) : Calls Try.prog 7 #[.slice a l.length cap, .int .u8 one, .int .u8 two, .slice da d.length dc] w (RetB (.bool true) w) := by
  by_cases hf : FewT l
  · by_cases hv : VT l
    · by_cases hp : 0 < l.length
      · by_cases h60 : d.length ≤ 60
        · by_cases hor : (orderOf l).length < l.length
          · exact no w a cap l hT hl hS one two da dc d (.inr (.inr (.inr (.inr ⟨hf, hv, hp, h60, hor⟩))))
          · exact yes w a cap l hT hl hS one two ho1 ho2 da dc d hD hf hv hp h60 hor
        · exact no w a cap l hT hl hS one two da dc d (.inr (.inr (.inr (.inl ⟨hf, hv, hp, by omega⟩))))
      · exact no w a cap l hT hl hS one two da dc d (.inr (.inr (.inl ⟨hf, hv, by omega⟩)))
    · exact no w a cap l hT hl hS one two da dc d (.inr (.inl ⟨hf, hv⟩))
  · exact no w a cap l hT hl hS one two da dc d (.inl hf)
end TaskHours
namespace TaskHours
set_option maxRecDepth 100000 in
theorem entry (H : Type) (enc : TypeId × Value → H) (W : World) (base : Nat) (args : Array Value) (ds : List (DataW H)) (p : List MemPlace)
    (hval : ∀ (j : Nat) t v, Try.f7.params[j]? = some t → args[j]? = some v → Value.okWide Try.prog W .any base t v)
    (hA : DataW.TrodAll enc Try.prog W 0 (fun _ => true) true Try.f7.params.toList args.toList ds p) :
    Calls Try.prog 7 args W (RetB (.bool true) W) := by
  rw [Try.params7] at hA hval
  obtain ⟨v0, vs0, d0, ds0, p0, q0, hargs, rfl, rfl, h0, r0⟩ := trodAll_cons hA
  obtain ⟨v1, vs1, d1, ds1, p1, q1, rfl, rfl, rfl, h1, r1⟩ := trodAll_cons r0
  obtain ⟨v2, vs2, d2, ds2, p2, q2, rfl, rfl, rfl, h2, r2⟩ := trodAll_cons r1
  obtain ⟨v3, vs3, d3, ds3, p3, q3, rfl, rfl, rfl, h3, r3⟩ := trodAll_cons r2
  obtain ⟨rfl, rfl, rfl⟩ := trodAll_nil r3
  obtain rfl : args = #[v0, v1, v2, v3] := by cases args; simp_all
  obtain ⟨la, lc, l, rfl, lT, ll, ls⟩ := open_tasks (hval 0 22 v0 rfl rfl) h0
  obtain ⟨x, rfl, xo⟩ := open_u8 (hval 1 5 v1 rfl rfl) h1
  obtain ⟨y, rfl, yo⟩ := open_u8 (hval 2 5 v2 rfl rfl) h2
  obtain ⟨da, dc, d, rfl, dB, dl⟩ := open_bls (hval 3 23 v3 rfl rfl) h3
  exact walk W la lc l lT ll ls x xo y yo da dc d dB dl
end TaskHours
/-! The step from the walk to the row of TaskHours. -/
namespace TaskHours
set_option maxRecDepth 100000 in
theorem lifted (os : Os) (started : os.Started) (H : Type) (enc : TypeId × Value → H) :
    ReturnsInHanded {} Try.checked os 7 .any (Rows.taskHoursSpec.pre6 enc Try.prog Try.f7 Rows.taskHoursRow.domain false) (Rows.taskHoursSpec.post enc Try.prog Try.f7 false true false false) := by
  refine returnsInHanded_of_change (C := Try.checked) own started (by kernel_rfl) Try.func7
    (ChangeSpec.witness6 (enc := enc) (C := Try.checked) false ⟨#[], #[.slice none 0 0, .int .u8 0, .int .u8 0, .slice none 0 0], []⟩ 8 (by kernel_rfl) (by kernel_rfl) (by kernel_rfl) (by kernel_rfl)) ?_
  intro W base args ds gs before hval0 hW hcnd _
  have hval : ∀ (j : Nat) t v, Try.f7.params[j]? = some t → args[j]? = some v → Value.okWide Try.prog W .any base t v := hval0
  have hW' := hW
  obtain ⟨p, q, hA0, hV, rfl, hfz, hnd⟩ := hW
  have hA : DataW.TrodAll enc Try.prog W 0 (fun _ => true) true Try.f7.params.toList args.toList ds p := hA0
  obtain ⟨rfl, rfl⟩ := trodVars_none hV
  have hlen := trodAll_len _ _ _ _ hA
  obtain ⟨d0, d1, d2, d3, rfl⟩ : ∃ d0 d1 d2 d3, ds = [d0, d1, d2, d3] := by
    rw [Try.params7] at hlen
    exact list4 hlen
  refine (entry H enc W base args [d0, d1, d2, d3] p hval hA).mono fun e W' ⟨he, bel⟩ => ?_
  subst he
  exact ⟨_, rfl, _, _, _, [], _, [], hW', trodAll_mk1 (shut_bool Try.underlying4 _), readback laidOut _ _ _ _ (by rw [Try.params7]; exact of_decide_eq_true (by kernel_rfl)) hA bel, rfl, bel.frame _, fun h => by cases h⟩

theorem over : Rows.taskHoursRow.holds Try.pinned (OpenSpec.ofChange Rows.taskHoursSpec) :=
  OpenClaim.holds_of_wide 7 Try.f7 rfl rfl rfl rfl rfl rfl rfl ⟨rfl, rfl, rfl, rfl, rfl⟩ rfl rfl rfl rfl rfl (by kernel_rfl) Try.func7 (by kernel_rfl)
    (of_decide_eq_true (by kernel_rfl)) (by unfold Func.isWrapper; first | (rw [if_pos (by decide +kernel)]; kernel_rfl) | (rw [if_neg (by decide +kernel)]; exact ⟨rfl, rfl⟩))
    (fun os started H enc _ => lifted os started H enc)

/-- THE STATEMENT -/
theorem proved : Rows.TaskHoursSaid := over
end TaskHours
#print axioms TaskHours.proved
end Go.Proofs.Ytidbmllelnffdaa
