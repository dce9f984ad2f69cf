

/- TaskMatchesReference: for every tasks, booleans and index, all functions of package task agree with the reference: the call of the law returns true, for every input. -/
import Derived.Test.YtidbmllelnffdaaTaskT
import Derived.Test.YtidbmllelnffdaaTaskU
import Derived.Test.YtidbmllelnffdaaTaskX
namespace Go.Proofs.Ytidbmllelnffdaa
open Go.ChangeShapes Go.WideShapes Go.ChangeAt Go.RowKit Go.Joins

namespace TaskMatchesReference
theorem no (w : World) (a : Option Addr) (cap : Nat) (l : List Tk) (hT : Tasks w a l) (hl : l.length < 9223372036854775808) (hS : ∀ i, i < l.length → (tg l i).after.length < 9223372036854775808)
    (da : Option Addr) (dc : Nat) (d : List Bool) (hd : d.length < 9223372036854775808) (one : Int) (hno : ¬ FewT l ∨ FewT l ∧ 60 < d.length) :
    Calls Try.prog 3 #[.slice a l.length cap, .slice da d.length dc, .int .i64 one] w (RetB (.bool true) w) := by
  have HS := Lib.hid (fun _ : l.length ≤ 45 => hS)
  rcases hno with hf | ⟨hf, h60⟩
  · have HF := Lib.hid (show false = true ↔ FewT l by simp [hf])
    clear hf hS
    go_enter Try.func3, Try.ntmps3
    go_wp2_with fail
    refine Calls.mono (head_any _) ?_
    rintro e w1 ⟨rfl, hb1⟩; have hs1 := hb1.size; (try simp at hs1)
    go_wp2_with fail
    refine Calls.mono (few_any l false a cap _ (hT.later (by repeat (first | exact Below.refl _ _ | assumption | refine Below.drew ?_ | refine below_drewN ?_ _ | refine Below.alloc ?_ (by first | omega | (simp; done) | (simp; omega)) _ | refine Below.setCell ?_ (by first | omega | (simp; done) | (simp; omega)) _ | refine Below.trans ?_ (Below.mono (by assumption) (by first | omega | (simp; done) | (simp; omega)))))) hl HS.out (by simpa using HF.out)) ?_
    rintro e w2 ⟨rfl, rfl⟩
    go_wp2_with fail
    go_ret
    exact retB rfl (by repeat (first | exact Below.refl _ _ | assumption | refine Below.drew ?_ | refine below_drewN ?_ _ | refine Below.alloc ?_ (by first | omega | (simp; done) | (simp; omega)) _ | refine Below.setCell ?_ (by first | omega | (simp; done) | (simp; omega)) _ | refine Below.trans ?_ (Below.mono (by assumption) (by first | omega | (simp; done) | (simp; omega)))))
  · have HF := Lib.hid (show true = true ↔ FewT l by simp [hf])
    clear hf hS
    go_enter Try.func3, Try.ntmps3
    go_wp2_with fail
    refine Calls.mono (head_any _) ?_
    rintro e w1 ⟨rfl, hb1⟩; have hs1 := hb1.size; (try simp at hs1)
    go_wp2_with fail
    refine Calls.mono (few_any l true a cap _ (hT.later (by repeat (first | exact Below.refl _ _ | assumption | refine Below.drew ?_ | refine below_drewN ?_ _ | refine Below.alloc ?_ (by first | omega | (simp; done) | (simp; omega)) _ | refine Below.setCell ?_ (by first | omega | (simp; done) | (simp; omega)) _ | refine Below.trans ?_ (Below.mono (by assumption) (by first | omega | (simp; done) | (simp; omega)))))) hl HS.out (by simpa using HF.out)) ?_
    rintro e w2 ⟨rfl, rfl⟩
    go_wp2_with fail
    go_ret
    exact retB rfl (by repeat (first | exact Below.refl _ _ | assumption | refine Below.drew ?_ | refine below_drewN ?_ _ | refine Below.alloc ?_ (by first | omega | (simp; done) | (simp; omega)) _ | refine Below.setCell ?_ (by first | omega | (simp; done) | (simp; omega)) _ | refine Below.trans ?_ (Below.mono (by assumption) (by first | omega | (simp; done) | (simp; omega)))))

set_option maxRecDepth 100000 in
set_option maxHeartbeats 8000000 in
theorem yes (w : World) (a : Option Addr) (cap : Nat) (l : List Tk) (hT : Tasks w a l) (hl : l.length < 9223372036854775808) (hS : ∀ i, i < l.length → (tg l i).after.length < 9223372036854775808)
    (da : Option Addr) (dc : Nat) (d : List Bool) (hD : Bools w da d) (hd : d.length < 9223372036854775808) (one : Int) (ho : -9223372036854775808 ≤ one ∧ one < 9223372036854775808) (hf : FewT l) (h60 : d.length ≤ 60) :
    Calls Try.prog 3 #[.slice a l.length cap, .slice da d.length dc, .int .i64 one] w (RetB (.bool true) w) := by
  have HS := Lib.hid hS
  have HO := Lib.hid ho
  have HF := Lib.hid (show true = true ↔ FewT l by simp [hf])
  have o40 := oL_len l
  have u40 := uL_len l d one
  have r40 := rL_len l d
  clear hf hS ho
  go_enter Try.func3, Try.ntmps3
  go_wp2_with fail
  refine Calls.mono (head_any _) ?_
  rintro e w1 ⟨rfl, hb1⟩; have hs1 := hb1.size; (try simp at hs1)
  go_wp2_with fail
  refine Calls.mono (few_any l true a cap _ (hT.later (by repeat (first | exact Below.refl _ _ | assumption | refine Below.drew ?_ | refine below_drewN ?_ _ | refine Below.alloc ?_ (by first | omega | (simp; done) | (simp; omega)) _ | refine Below.setCell ?_ (by first | omega | (simp; done) | (simp; omega)) _ | refine Below.trans ?_ (Below.mono (by assumption) (by first | omega | (simp; done) | (simp; omega)))))) hl (fun _ => HS.out) (by simpa using HF.out)) ?_
  rintro e w2 ⟨rfl, rfl⟩
  go_wp2_with fail
  refine Calls.mono (order_all l a cap _ (hT.later (by repeat (first | exact Below.refl _ _ | assumption | refine Below.drew ?_ | refine below_drewN ?_ _ | refine Below.alloc ?_ (by first | omega | (simp; done) | (simp; omega)) _ | refine Below.setCell ?_ (by first | omega | (simp; done) | (simp; omega)) _ | refine Below.trans ?_ (Below.mono (by assumption) (by first | omega | (simp; done) | (simp; omega)))))) hl HS.out).1 ?_
  rintro e w2 ⟨oa, oc, rfl, hI2, hb2⟩
  have hs2 := hb2.size
  have hk2 : Below w.heap.size w w2 := (by repeat (first | exact Below.refl _ _ | assumption | refine Below.drew ?_ | refine below_drewN ?_ _ | refine Below.alloc ?_ (by first | omega | (simp; done) | (simp; omega)) _ | refine Below.setCell ?_ (by first | omega | (simp; done) | (simp; omega)) _ | refine Below.trans ?_ (Below.mono (by assumption) (by first | omega | (simp; done) | (simp; omega)))))
  clear hb1 hb2
  go_wp2_with fail
  refine Calls.mono (order_all l a cap _ (hT.later (by repeat (first | exact Below.refl _ _ | assumption | refine Below.drew ?_ | refine below_drewN ?_ _ | refine Below.alloc ?_ (by first | omega | (simp; done) | (simp; omega)) _ | refine Below.setCell ?_ (by first | omega | (simp; done) | (simp; omega)) _ | refine Below.trans ?_ (Below.mono (by assumption) (by first | omega | (simp; done) | (simp; omega)))))) hl HS.out).2 ?_
  rintro e w3 ⟨oa3, oc3, rfl, hI3, hb3⟩
  have hs3 := hb3.size
  have hk3 : Below w.heap.size w w3 := (by repeat (first | exact Below.refl _ _ | assumption | refine Below.drew ?_ | refine below_drewN ?_ _ | refine Below.alloc ?_ (by first | omega | (simp; done) | (simp; omega)) _ | refine Below.setCell ?_ (by first | omega | (simp; done) | (simp; omega)) _ | refine Below.trans ?_ (Below.mono (by assumption) (by first | omega | (simp; done) | (simp; omega)))))
  have hI2 := hI2.later hb3
  clear hb3
  go_wp2_with fail
  refine Calls.mono (critical_all l a cap _ (hT.later (by repeat (first | exact Below.refl _ _ | assumption | refine Below.drew ?_ | refine below_drewN ?_ _ | refine Below.alloc ?_ (by first | omega | (simp; done) | (simp; omega)) _ | refine Below.setCell ?_ (by first | omega | (simp; done) | (simp; omega)) _ | refine Below.trans ?_ (Below.mono (by assumption) (by first | omega | (simp; done) | (simp; omega)))))) hl HS.out).1 ?_
  rintro e w4 ⟨rfl, hb4⟩
  have hs4 := hb4.size
  have hk4 : Below w.heap.size w w4 := (by repeat (first | exact Below.refl _ _ | assumption | refine Below.drew ?_ | refine below_drewN ?_ _ | refine Below.alloc ?_ (by first | omega | (simp; done) | (simp; omega)) _ | refine Below.setCell ?_ (by first | omega | (simp; done) | (simp; omega)) _ | refine Below.trans ?_ (Below.mono (by assumption) (by first | omega | (simp; done) | (simp; omega)))))
  have hI2 := hI2.later hb4
  have hI3 := hI3.later hb4
  clear hb4
  go_wp2_with fail
  refine Calls.mono (critical_all l a cap _ (hT.later (by repeat (first | exact Below.refl _ _ | assumption | refine Below.drew ?_ | refine below_drewN ?_ _ | refine Below.alloc ?_ (by first | omega | (simp; done) | (simp; omega)) _ | refine Below.setCell ?_ (by first | omega | (simp; done) | (simp; omega)) _ | refine Below.trans ?_ (Below.mono (by assumption) (by first | omega | (simp; done) | (simp; omega)))))) hl HS.out).2 ?_
  rintro e w5 ⟨rfl, hb5⟩
  have hs5 := hb5.size
  have hk5 : Below w.heap.size w w5 := (by repeat (first | exact Below.refl _ _ | assumption | refine Below.drew ?_ | refine below_drewN ?_ _ | refine Below.alloc ?_ (by first | omega | (simp; done) | (simp; omega)) _ | refine Below.setCell ?_ (by first | omega | (simp; done) | (simp; omega)) _ | refine Below.trans ?_ (Below.mono (by assumption) (by first | omega | (simp; done) | (simp; omega)))))
  have hI2 := hI2.later hb5
  have hI3 := hI3.later hb5
  clear hb5
  go_wp2_with fail
  refine Calls.mono (undo_all l a cap _ (hT.later (by repeat (first | exact Below.refl _ _ | assumption | refine Below.drew ?_ | refine below_drewN ?_ _ | refine Below.alloc ?_ (by first | omega | (simp; done) | (simp; omega)) _ | refine Below.setCell ?_ (by first | omega | (simp; done) | (simp; omega)) _ | refine Below.trans ?_ (Below.mono (by assumption) (by first | omega | (simp; done) | (simp; omega)))))) hl HS.out d da dc (hD.later (by repeat (first | exact Below.refl _ _ | assumption | refine Below.drew ?_ | refine below_drewN ?_ _ | refine Below.alloc ?_ (by first | omega | (simp; done) | (simp; omega)) _ | refine Below.setCell ?_ (by first | omega | (simp; done) | (simp; omega)) _ | refine Below.trans ?_ (Below.mono (by assumption) (by first | omega | (simp; done) | (simp; omega)))))) one HO.out).1 ?_
  rintro e w6 ⟨oa6, oc6, rfl, hB6, hb6⟩
  have hs6 := hb6.size
  have hk6 : Below w.heap.size w w6 := (by repeat (first | exact Below.refl _ _ | assumption | refine Below.drew ?_ | refine below_drewN ?_ _ | refine Below.alloc ?_ (by first | omega | (simp; done) | (simp; omega)) _ | refine Below.setCell ?_ (by first | omega | (simp; done) | (simp; omega)) _ | refine Below.trans ?_ (Below.mono (by assumption) (by first | omega | (simp; done) | (simp; omega)))))
  have hI2 := hI2.later hb6
  have hI3 := hI3.later hb6
  clear hb6
  go_wp2_with fail
  refine Calls.mono (undo_all l a cap _ (hT.later (by repeat (first | exact Below.refl _ _ | assumption | refine Below.drew ?_ | refine below_drewN ?_ _ | refine Below.alloc ?_ (by first | omega | (simp; done) | (simp; omega)) _ | refine Below.setCell ?_ (by first | omega | (simp; done) | (simp; omega)) _ | refine Below.trans ?_ (Below.mono (by assumption) (by first | omega | (simp; done) | (simp; omega)))))) hl HS.out d da dc (hD.later (by repeat (first | exact Below.refl _ _ | assumption | refine Below.drew ?_ | refine below_drewN ?_ _ | refine Below.alloc ?_ (by first | omega | (simp; done) | (simp; omega)) _ | refine Below.setCell ?_ (by first | omega | (simp; done) | (simp; omega)) _ | refine Below.trans ?_ (Below.mono (by assumption) (by first | omega | (simp; done) | (simp; omega)))))) one HO.out).2 ?_
  rintro e w7 ⟨oa7, oc7, rfl, hB7, hb7⟩
  have hs7 := hb7.size
  have hk7 : Below w.heap.size w w7 := (by repeat (first | exact Below.refl _ _ | assumption | refine Below.drew ?_ | refine below_drewN ?_ _ | refine Below.alloc ?_ (by first | omega | (simp; done) | (simp; omega)) _ | refine Below.setCell ?_ (by first | omega | (simp; done) | (simp; omega)) _ | refine Below.trans ?_ (Below.mono (by assumption) (by first | omega | (simp; done) | (simp; omega)))))
  have hI2 := hI2.later hb7
  have hI3 := hI3.later hb7
  have hB6 := hB6.later hb7
  clear hb7
  go_wp2_with fail
  refine Calls.mono (valid_all l a cap _ (hT.later (by repeat (first | exact Below.refl _ _ | assumption | refine Below.drew ?_ | refine below_drewN ?_ _ | refine Below.alloc ?_ (by first | omega | (simp; done) | (simp; omega)) _ | refine Below.setCell ?_ (by first | omega | (simp; done) | (simp; omega)) _ | refine Below.trans ?_ (Below.mono (by assumption) (by first | omega | (simp; done) | (simp; omega)))))) hl HS.out).1 ?_
  rintro e w8 ⟨rfl, hb8⟩
  have hs8 := hb8.size
  have hk8 : Below w.heap.size w w8 := (by repeat (first | exact Below.refl _ _ | assumption | refine Below.drew ?_ | refine below_drewN ?_ _ | refine Below.alloc ?_ (by first | omega | (simp; done) | (simp; omega)) _ | refine Below.setCell ?_ (by first | omega | (simp; done) | (simp; omega)) _ | refine Below.trans ?_ (Below.mono (by assumption) (by first | omega | (simp; done) | (simp; omega)))))
  have hI2 := hI2.later hb8
  have hI3 := hI3.later hb8
  have hB6 := hB6.later hb8
  have hB7 := hB7.later hb8
  clear hb8
  go_wp2_with fail
  refine Calls.mono (valid_all l a cap _ (hT.later (by repeat (first | exact Below.refl _ _ | assumption | refine Below.drew ?_ | refine below_drewN ?_ _ | refine Below.alloc ?_ (by first | omega | (simp; done) | (simp; omega)) _ | refine Below.setCell ?_ (by first | omega | (simp; done) | (simp; omega)) _ | refine Below.trans ?_ (Below.mono (by assumption) (by first | omega | (simp; done) | (simp; omega)))))) hl HS.out).2 ?_
  rintro e w9 ⟨rfl, hb9⟩
  have hs9 := hb9.size
  have hk9 : Below w.heap.size w w9 := (by repeat (first | exact Below.refl _ _ | assumption | refine Below.drew ?_ | refine below_drewN ?_ _ | refine Below.alloc ?_ (by first | omega | (simp; done) | (simp; omega)) _ | refine Below.setCell ?_ (by first | omega | (simp; done) | (simp; omega)) _ | refine Below.trans ?_ (Below.mono (by assumption) (by first | omega | (simp; done) | (simp; omega)))))
  have hI2 := hI2.later hb9
  have hI3 := hI3.later hb9
  have hB6 := hB6.later hb9
  have hB7 := hB7.later hb9
  clear hb9
  go_wp2_with fail
  refine Calls.mono (sameInts_any (oL l) (oL l) true oa oa3 oc oc3 _ hI2 hI3 (by omega) (by omega) (by simp)) ?_
  rintro e w10 ⟨rfl, hb10⟩
  have hs10 := hb10.size
  have hk10 : Below w.heap.size w w10 := (by repeat (first | exact Below.refl _ _ | assumption | refine Below.drew ?_ | refine below_drewN ?_ _ | refine Below.alloc ?_ (by first | omega | (simp; done) | (simp; omega)) _ | refine Below.setCell ?_ (by first | omega | (simp; done) | (simp; omega)) _ | refine Below.trans ?_ (Below.mono (by assumption) (by first | omega | (simp; done) | (simp; omega)))))
  have hB6 := hB6.later hb10
  have hB7 := hB7.later hb10
  clear hb10
  go_wp2_with fail
  refine Calls.mono (sameBools_any (uL l d one) (uL l d one) true oa6 oa7 oc6 oc7 _ hB6 hB7 (by omega) (by omega) (by simp)) ?_
  rintro e w11 ⟨rfl, hb11⟩
  have hs11 := hb11.size
  have hk11 : Below w.heap.size w w11 := (by repeat (first | exact Below.refl _ _ | assumption | refine Below.drew ?_ | refine below_drewN ?_ _ | refine Below.alloc ?_ (by first | omega | (simp; done) | (simp; omega)) _ | refine Below.setCell ?_ (by first | omega | (simp; done) | (simp; omega)) _ | refine Below.trans ?_ (Below.mono (by assumption) (by first | omega | (simp; done) | (simp; omega)))))
  clear hb11
  go_wp2_with fail
  refine Calls.mono (ready_all l a cap _ (hT.later (by repeat (first | exact Below.refl _ _ | assumption | refine Below.drew ?_ | refine below_drewN ?_ _ | refine Below.alloc ?_ (by first | omega | (simp; done) | (simp; omega)) _ | refine Below.setCell ?_ (by first | omega | (simp; done) | (simp; omega)) _ | refine Below.trans ?_ (Below.mono (by assumption) (by first | omega | (simp; done) | (simp; omega)))))) hl HS.out d da dc (hD.later (by repeat (first | exact Below.refl _ _ | assumption | refine Below.drew ?_ | refine below_drewN ?_ _ | refine Below.alloc ?_ (by first | omega | (simp; done) | (simp; omega)) _ | refine Below.setCell ?_ (by first | omega | (simp; done) | (simp; omega)) _ | refine Below.trans ?_ (Below.mono (by assumption) (by first | omega | (simp; done) | (simp; omega))))))).1 ?_
  rintro e w12 ⟨ra, rc, rfl, hR12, hb12⟩
  have hs12 := hb12.size
  have hk12 : Below w.heap.size w w12 := (by repeat (first | exact Below.refl _ _ | assumption | refine Below.drew ?_ | refine below_drewN ?_ _ | refine Below.alloc ?_ (by first | omega | (simp; done) | (simp; omega)) _ | refine Below.setCell ?_ (by first | omega | (simp; done) | (simp; omega)) _ | refine Below.trans ?_ (Below.mono (by assumption) (by first | omega | (simp; done) | (simp; omega)))))
  clear hb12
  go_wp2_with fail
  refine Calls.mono (ready_all l a cap _ (hT.later (by repeat (first | exact Below.refl _ _ | assumption | refine Below.drew ?_ | refine below_drewN ?_ _ | refine Below.alloc ?_ (by first | omega | (simp; done) | (simp; omega)) _ | refine Below.setCell ?_ (by first | omega | (simp; done) | (simp; omega)) _ | refine Below.trans ?_ (Below.mono (by assumption) (by first | omega | (simp; done) | (simp; omega)))))) hl HS.out d da dc (hD.later (by repeat (first | exact Below.refl _ _ | assumption | refine Below.drew ?_ | refine below_drewN ?_ _ | refine Below.alloc ?_ (by first | omega | (simp; done) | (simp; omega)) _ | refine Below.setCell ?_ (by first | omega | (simp; done) | (simp; omega)) _ | refine Below.trans ?_ (Below.mono (by assumption) (by first | omega | (simp; done) | (simp; omega))))))).2 ?_
  rintro e w13 ⟨ra13, rc13, rfl, hR13, hb13⟩
  have hs13 := hb13.size
  have hk13 : Below w.heap.size w w13 := (by repeat (first | exact Below.refl _ _ | assumption | refine Below.drew ?_ | refine below_drewN ?_ _ | refine Below.alloc ?_ (by first | omega | (simp; done) | (simp; omega)) _ | refine Below.setCell ?_ (by first | omega | (simp; done) | (simp; omega)) _ | refine Below.trans ?_ (Below.mono (by assumption) (by first | omega | (simp; done) | (simp; omega)))))
  have hR12 := hR12.later hb13
  go_wp2_with fail
  refine Calls.mono (sameInts_any (rL l d) (rL l d) true ra ra13 rc rc13 _ hR12 hR13 (by omega) (by omega) (by simp)) ?_
  rintro e w14 ⟨rfl, hb14⟩
  have hs14 := hb14.size
  go_wp2_with fail
  go_ret
  exact retB rfl (by repeat (first | exact Below.refl _ _ | assumption | refine Below.drew ?_ | refine below_drewN ?_ _ | refine Below.alloc ?_ (by first | omega | (simp; done) | (simp; omega)) _ | refine Below.setCell ?_ (by first | omega | (simp; done) | (simp; omega)) _ | refine Below.trans ?_ (Below.mono (by assumption) (by first | omega | (simp; done) | (simp; omega)))))

theorem walk (w : World) (a : Option Addr) (cap : Nat) (l : List Tk) (hT : Tasks w a l) (hl : l.length < 9223372036854775808) (hS : ∀ i, i < l.length → (tg l i).after.length < 9223372036854775808)
    (da : Option Addr) (dc : Nat) (d : List Bool) (hD : Bools w da d) (hd : d.length < 9223372036854775808) (one : Int) (ho : -9223372036854775808 ≤ one ∧ one < 9223372036854775808) :
    Calls Try.prog 3 #[.slice a l.length cap, .slice da d.length dc, .int .i64 one] w (RetB (.bool true) w) := by
  by_cases hf : FewT l
  · by_cases h60 : d.length ≤ 60
    · exact yes w a cap l hT hl hS da dc d hD hd one ho hf h60
    · exact no w a cap l hT hl hS da dc d hd one (.inr ⟨hf, by omega⟩)
  · exact no w a cap l hT hl hS da dc d hd one (.inl hf)
end TaskMatchesReference
namespace TaskMatchesReference
set_option maxRecDepth 100000 in
theorem entry (H : Type) (enc : TypeId × Value → H) (W : World) (base : Nat) (args : Array Value) (ds : List (DataW H)) (p : List MemPlace)
    (hval : ∀ (j : Nat) t v, Try.f3.params[j]? = some t → args[j]? = some v → Value.okWide Try.prog W .any base t v)
    (hA : DataW.TrodAll enc Try.prog W 0 (fun _ => true) true Try.f3.params.toList args.toList ds p) :
    Calls Try.prog 3 args W (RetB (.bool true) W) := by
  rw [Try.params3] at hA hval
  obtain ⟨v0, vs0, d0, ds0, p0, q0, hargs, rfl, rfl, h0, r0⟩ := trodAll_cons hA
  obtain ⟨v1, vs1, d1, ds1, p1, q1, rfl, rfl, rfl, h1, r1⟩ := trodAll_cons r0
  obtain ⟨v2, vs2, d2, ds2, p2, q2, rfl, rfl, rfl, h2, r2⟩ := trodAll_cons r1
  obtain ⟨rfl, rfl, rfl⟩ := trodAll_nil r2
  obtain rfl : args = #[v0, v1, v2] := by cases args; simp_all
  obtain ⟨la, lc, l, rfl, lT, ll, ls⟩ := open_tasks (hval 0 22 v0 rfl rfl) h0
  obtain ⟨da, dc, d, rfl, dB, dl⟩ := open_bls (hval 1 23 v1 rfl rfl) h1
  obtain ⟨one, rfl, oneo⟩ := open_i64 (hval 2 3 v2 rfl rfl) h2
  exact walk W la lc l lT ll ls da dc d dB dl one oneo
end TaskMatchesReference
/-! The step from the walk to the row of TaskMatchesReference. -/
namespace TaskMatchesReference
set_option maxRecDepth 100000 in
theorem lifted (os : Os) (started : os.Started) (H : Type) (enc : TypeId × Value → H) :
    ReturnsInHanded {} Try.checked os 3 .any (Rows.taskMatchesReferenceSpec.pre6 enc Try.prog Try.f3 Rows.taskMatchesReferenceRow.domain false) (Rows.taskMatchesReferenceSpec.post enc Try.prog Try.f3 false true false false) := by
  refine returnsInHanded_of_change (C := Try.checked) own started (by kernel_rfl) Try.func3
    (ChangeSpec.witness6 (enc := enc) (C := Try.checked) false ⟨#[], #[.slice none 0 0, .slice none 0 0, .int .i64 0], []⟩ 8 (by kernel_rfl) (by kernel_rfl) (by kernel_rfl) (by kernel_rfl)) ?_
  intro W base args ds gs before hval0 hW hcnd _
  have hval : ∀ (j : Nat) t v, Try.f3.params[j]? = some t → args[j]? = some v → Value.okWide Try.prog W .any base t v := hval0
  have hW' := hW
  obtain ⟨p, q, hA0, hV, rfl, hfz, hnd⟩ := hW
  have hA : DataW.TrodAll enc Try.prog W 0 (fun _ => true) true Try.f3.params.toList args.toList ds p := hA0
  obtain ⟨rfl, rfl⟩ := trodVars_none hV
  have hlen := trodAll_len _ _ _ _ hA
  obtain ⟨d0, d1, d2, rfl⟩ : ∃ d0 d1 d2, ds = [d0, d1, d2] := by
    rw [Try.params3] at hlen
    exact list3 hlen
  refine (entry H enc W base args [d0, d1, d2] p hval hA).mono fun e W' ⟨he, bel⟩ => ?_
  subst he
  exact ⟨_, rfl, _, _, _, [], _, [], hW', trodAll_mk1 (shut_bool Try.underlying4 _), readback laidOut _ _ _ _ (by rw [Try.params3]; exact of_decide_eq_true (by kernel_rfl)) hA bel, rfl, bel.frame _, fun h => by cases h⟩

theorem over : Rows.taskMatchesReferenceRow.holds Try.pinned (OpenSpec.ofChange Rows.taskMatchesReferenceSpec) :=
  OpenClaim.holds_of_wide 3 Try.f3 rfl rfl rfl rfl rfl rfl rfl ⟨rfl, rfl, rfl, rfl, rfl⟩ rfl rfl rfl rfl rfl (by kernel_rfl) Try.func3 (by kernel_rfl)
    (of_decide_eq_true (by kernel_rfl)) (by unfold Func.isWrapper; first | (rw [if_pos (by decide +kernel)]; kernel_rfl) | (rw [if_neg (by decide +kernel)]; exact ⟨rfl, rfl⟩))
    (fun os started H enc _ => lifted os started H enc)

/-- THE STATEMENT -/
theorem proved : Rows.TaskMatchesReferenceSaid := over
end TaskMatchesReference
#print axioms TaskMatchesReference.proved
end Go.Proofs.Ytidbmllelnffdaa
