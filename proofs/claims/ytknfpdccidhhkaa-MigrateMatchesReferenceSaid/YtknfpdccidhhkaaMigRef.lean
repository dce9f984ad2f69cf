


/- MigrateMatchesReference: for every interval, two numbers and limits all functions agree with the reference: the call of the law returns true, for every input. -/
import Derived.Test.YtknfpdccidhhkaaMigOpen
import Derived.Test.YtknfpdccidhhkaaMigT
import Derived.Test.YtknfpdccidhhkaaMigK
namespace Go.Proofs.Ytknfpdccidhhkaa
open Go.ChangeShapes Go.WideShapes Go.ChangeAt Go.RowKit Go.Joins

namespace MigrateMatchesReference
theorem x_of {f : FuncId} {x : Int × Int × Int} {p q e : Int} {args : Array Value} {w : World} (h : Calls Try.prog f args w (RetX x w)) (hx : x = (p, q, e)) : Calls Try.prog f args w (fun e' w' => e' = .returned (.tuple #[.agg #[.int .i64 p, .int .i64 q], .int .i64 e]) ∧ Below w.heap.size w w') := by
  subst hx
  exact h
set_option maxRecDepth 100000 in
set_option maxHeartbeats 8000000 in
theorem law (a b n m : Int) (hn : -9223372036854775808 ≤ n ∧ n < 9223372036854775808) (sa : Option Addr) (cap : Nat) (zs : List Int) (hz : zs.length < 9223372036854775808) (w : World) (hI : Ints w sa zs) (p1 q1 e1 p2 q2 e2 p3 q3 e3 : Int)
    (x1 : scX a b n m = (p1, q1, e1)) (x2 : chX a b zs = (p2, q2, e2)) (x3 : lfX a b n = (p3, q3, e3)) :
    Calls Try.prog 3 #[.agg #[.int .i64 a, .int .i64 b], .int .i64 n, .int .i64 m, .slice sa zs.length cap] w (RetB (.bool true) w) := by
  have X1 := Lib.hid x1
  have X2 := Lib.hid x2
  have X3 := Lib.hid x3
  have HN := Lib.hid hn
  have HI := Lib.hid hI
  clear x1 x2 x3 hn hI
  by_cases hlen : zs.length ≤ 70
  · have d0 : decide ((70 : Int) < (zs.length : Int)) = false := by simp; omega
    go_enter Try.func3, Try.ntmps3
    go_wp2_with fail
    refine Calls.mono (head_any _) ?_
    rintro e w1 ⟨rfl, hb1⟩; have hs1 := hb1.size; (try simp at hs1)
    have _c0 : w1.cell? ⟨w.heap.size, 0, none⟩ = some (.int .i64 a) := cell_later hb1 (by first | assumption | (simp [go_sem, *]; done) | exact cell_later' (by assumption) (by repeat (first | exact Below.refl _ _ | assumption | refine Below.drew ?_ | refine below_drewN ?_ _ | refine Below.alloc ?_ (by first | omega | (simp; done) | (simp; omega)) _ | refine Below.setCell ?_ (by first | omega | (simp; done) | (simp; omega)) _ | refine Below.trans ?_ (Below.mono (by assumption) (by first | omega | (simp; done) | (simp; omega)))))); have _f0 : w1.frozen? ⟨w.heap.size, 0, none⟩ = false := (hb1.frozen (p := ⟨w.heap.size, 0, none⟩) (by first | omega | (simp; done) | (simp; omega))).trans (by first | assumption | (simp [go_sem, *]; done) | exact frozen_later' (by assumption) (by first | omega | (simp; done) | (simp; omega)) (by repeat (first | exact Below.refl _ _ | assumption | refine Below.drew ?_ | refine below_drewN ?_ _ | refine Below.alloc ?_ (by first | omega | (simp; done) | (simp; omega)) _ | refine Below.setCell ?_ (by first | omega | (simp; done) | (simp; omega)) _ | refine Below.trans ?_ (Below.mono (by assumption) (by first | omega | (simp; done) | (simp; omega)))))); have _c1 : w1.cell? ⟨w.heap.size, 1, none⟩ = some (.int .i64 b) := cell_later hb1 (by first | assumption | (simp [go_sem, *]; done) | exact cell_later' (by assumption) (by repeat (first | exact Below.refl _ _ | assumption | refine Below.drew ?_ | refine below_drewN ?_ _ | refine Below.alloc ?_ (by first | omega | (simp; done) | (simp; omega)) _ | refine Below.setCell ?_ (by first | omega | (simp; done) | (simp; omega)) _ | refine Below.trans ?_ (Below.mono (by assumption) (by first | omega | (simp; done) | (simp; omega)))))); have _f1 : w1.frozen? ⟨w.heap.size, 1, none⟩ = false := (hb1.frozen (p := ⟨w.heap.size, 1, none⟩) (by first | omega | (simp; done) | (simp; omega))).trans (by first | assumption | (simp [go_sem, *]; done) | exact frozen_later' (by assumption) (by first | omega | (simp; done) | (simp; omega)) (by repeat (first | exact Below.refl _ _ | assumption | refine Below.drew ?_ | refine below_drewN ?_ _ | refine Below.alloc ?_ (by first | omega | (simp; done) | (simp; omega)) _ | refine Below.setCell ?_ (by first | omega | (simp; done) | (simp; omega)) _ | refine Below.trans ?_ (Below.mono (by assumption) (by first | omega | (simp; done) | (simp; omega))))))
    go_wp2_with fail
    refine Calls.mono (x_of (scale_any a b n m _) X1.out) ?_
    rintro e w2 ⟨rfl, hb2⟩
    have hs2 := hb2.size
    (try simp at hs2)
    have lw2 : w.heap.size < w2.heap.size := by omega
    have pw_2_0 : w2.cell? ⟨w.heap.size, 0, none⟩ = some (.int .i64 a) := cell_later hb2 (by (first | assumption | exact cell_alloc (by assumption) _ | (simp [go_sem, *]; done))); have pw_2_1 : w2.cell? ⟨w.heap.size, 1, none⟩ = some (.int .i64 b) := cell_later hb2 (by (first | assumption | exact cell_alloc (by assumption) _ | (simp [go_sem, *]; done)))
    go_wp2_with fail
    refine Calls.mono (x_of (rscale_any a b n m _) X1.out) ?_
    rintro e w3 ⟨rfl, hb3⟩
    have hs3 := hb3.size
    (try simp at hs3)
    have lw3 : w.heap.size < w3.heap.size := by omega
    have pw_3_0 : w3.cell? ⟨w.heap.size, 0, none⟩ = some (.int .i64 a) := cell_later hb3 (by (first | assumption | exact cell_alloc (by assumption) _ | (simp [go_sem, *]; done))); have pw_3_1 : w3.cell? ⟨w.heap.size, 1, none⟩ = some (.int .i64 b) := cell_later hb3 (by (first | assumption | exact cell_alloc (by assumption) _ | (simp [go_sem, *]; done)))
    have lw23 : w2.heap.size < w3.heap.size := by omega
    have pw2_3_0 : w3.cell? ⟨w2.heap.size, 0, none⟩ = some (.int .i64 p1) := cell_later hb3 (by (first | assumption | exact cell_alloc (by assumption) _ | (simp [go_sem, *]; done))); have pw2_3_1 : w3.cell? ⟨w2.heap.size, 1, none⟩ = some (.int .i64 q1) := cell_later hb3 (by (first | assumption | exact cell_alloc (by assumption) _ | (simp [go_sem, *]; done)))
    go_wp2_with fail
    refine Calls.mono (x_of (chain_any a b sa cap zs _ (HI.out.later (by repeat (first | exact Below.refl _ _ | assumption | refine Below.drew ?_ | refine below_drewN ?_ _ | refine Below.alloc ?_ (by first | omega | (simp; done) | (simp; omega)) _ | refine Below.setCell ?_ (by first | omega | (simp; done) | (simp; omega)) _ | refine Below.trans ?_ (Below.mono (by assumption) (by first | omega | (simp; done) | (simp; omega))))))) X2.out) ?_
    rintro e w4 ⟨rfl, hb4⟩
    have hs4 := hb4.size
    (try simp at hs4)
    have lw4 : w.heap.size < w4.heap.size := by omega
    have pw_4_0 : w4.cell? ⟨w.heap.size, 0, none⟩ = some (.int .i64 a) := cell_later hb4 (by (first | assumption | exact cell_alloc (by assumption) _ | (simp [go_sem, *]; done))); have pw_4_1 : w4.cell? ⟨w.heap.size, 1, none⟩ = some (.int .i64 b) := cell_later hb4 (by (first | assumption | exact cell_alloc (by assumption) _ | (simp [go_sem, *]; done)))
    have lw24 : w2.heap.size < w4.heap.size := by omega
    have pw2_4_0 : w4.cell? ⟨w2.heap.size, 0, none⟩ = some (.int .i64 p1) := cell_later hb4 (by (first | assumption | exact cell_alloc (by assumption) _ | (simp [go_sem, *]; done))); have pw2_4_1 : w4.cell? ⟨w2.heap.size, 1, none⟩ = some (.int .i64 q1) := cell_later hb4 (by (first | assumption | exact cell_alloc (by assumption) _ | (simp [go_sem, *]; done)))
    have lw34 : w3.heap.size < w4.heap.size := by omega
    have pw3_4_0 : w4.cell? ⟨w3.heap.size, 0, none⟩ = some (.int .i64 p1) := cell_later hb4 (by (first | assumption | exact cell_alloc (by assumption) _ | (simp [go_sem, *]; done))); have pw3_4_1 : w4.cell? ⟨w3.heap.size, 1, none⟩ = some (.int .i64 q1) := cell_later hb4 (by (first | assumption | exact cell_alloc (by assumption) _ | (simp [go_sem, *]; done)))
    go_wp2_with fail
    refine Calls.mono (x_of (rchain_any a b sa cap zs _ (HI.out.later (by repeat (first | exact Below.refl _ _ | assumption | refine Below.drew ?_ | refine below_drewN ?_ _ | refine Below.alloc ?_ (by first | omega | (simp; done) | (simp; omega)) _ | refine Below.setCell ?_ (by first | omega | (simp; done) | (simp; omega)) _ | refine Below.trans ?_ (Below.mono (by assumption) (by first | omega | (simp; done) | (simp; omega))))))) X2.out) ?_
    rintro e w5 ⟨rfl, hb5⟩
    have hs5 := hb5.size
    (try simp at hs5)
    have lw5 : w.heap.size < w5.heap.size := by omega
    have pw_5_0 : w5.cell? ⟨w.heap.size, 0, none⟩ = some (.int .i64 a) := cell_later hb5 (by (first | assumption | exact cell_alloc (by assumption) _ | (simp [go_sem, *]; done))); have pw_5_1 : w5.cell? ⟨w.heap.size, 1, none⟩ = some (.int .i64 b) := cell_later hb5 (by (first | assumption | exact cell_alloc (by assumption) _ | (simp [go_sem, *]; done)))
    have lw25 : w2.heap.size < w5.heap.size := by omega
    have pw2_5_0 : w5.cell? ⟨w2.heap.size, 0, none⟩ = some (.int .i64 p1) := cell_later hb5 (by (first | assumption | exact cell_alloc (by assumption) _ | (simp [go_sem, *]; done))); have pw2_5_1 : w5.cell? ⟨w2.heap.size, 1, none⟩ = some (.int .i64 q1) := cell_later hb5 (by (first | assumption | exact cell_alloc (by assumption) _ | (simp [go_sem, *]; done)))
    have lw35 : w3.heap.size < w5.heap.size := by omega
    have pw3_5_0 : w5.cell? ⟨w3.heap.size, 0, none⟩ = some (.int .i64 p1) := cell_later hb5 (by (first | assumption | exact cell_alloc (by assumption) _ | (simp [go_sem, *]; done))); have pw3_5_1 : w5.cell? ⟨w3.heap.size, 1, none⟩ = some (.int .i64 q1) := cell_later hb5 (by (first | assumption | exact cell_alloc (by assumption) _ | (simp [go_sem, *]; done)))
    have lw45 : w4.heap.size < w5.heap.size := by omega
    have pw4_5_0 : w5.cell? ⟨w4.heap.size, 0, none⟩ = some (.int .i64 p2) := cell_later hb5 (by (first | assumption | exact cell_alloc (by assumption) _ | (simp [go_sem, *]; done))); have pw4_5_1 : w5.cell? ⟨w4.heap.size, 1, none⟩ = some (.int .i64 q2) := cell_later hb5 (by (first | assumption | exact cell_alloc (by assumption) _ | (simp [go_sem, *]; done)))
    go_wp2_with fail
    refine Calls.mono (x_of (left_any a b n HN.out _) X3.out) ?_
    rintro e w6 ⟨rfl, hb6⟩
    have hs6 := hb6.size
    (try simp at hs6)
    have lw6 : w.heap.size < w6.heap.size := by omega
    have pw_6_0 : w6.cell? ⟨w.heap.size, 0, none⟩ = some (.int .i64 a) := cell_later hb6 (by (first | assumption | exact cell_alloc (by assumption) _ | (simp [go_sem, *]; done))); have pw_6_1 : w6.cell? ⟨w.heap.size, 1, none⟩ = some (.int .i64 b) := cell_later hb6 (by (first | assumption | exact cell_alloc (by assumption) _ | (simp [go_sem, *]; done)))
    have lw26 : w2.heap.size < w6.heap.size := by omega
    have pw2_6_0 : w6.cell? ⟨w2.heap.size, 0, none⟩ = some (.int .i64 p1) := cell_later hb6 (by (first | assumption | exact cell_alloc (by assumption) _ | (simp [go_sem, *]; done))); have pw2_6_1 : w6.cell? ⟨w2.heap.size, 1, none⟩ = some (.int .i64 q1) := cell_later hb6 (by (first | assumption | exact cell_alloc (by assumption) _ | (simp [go_sem, *]; done)))
    have lw36 : w3.heap.size < w6.heap.size := by omega
    have pw3_6_0 : w6.cell? ⟨w3.heap.size, 0, none⟩ = some (.int .i64 p1) := cell_later hb6 (by (first | assumption | exact cell_alloc (by assumption) _ | (simp [go_sem, *]; done))); have pw3_6_1 : w6.cell? ⟨w3.heap.size, 1, none⟩ = some (.int .i64 q1) := cell_later hb6 (by (first | assumption | exact cell_alloc (by assumption) _ | (simp [go_sem, *]; done)))
    have lw46 : w4.heap.size < w6.heap.size := by omega
    have pw4_6_0 : w6.cell? ⟨w4.heap.size, 0, none⟩ = some (.int .i64 p2) := cell_later hb6 (by (first | assumption | exact cell_alloc (by assumption) _ | (simp [go_sem, *]; done))); have pw4_6_1 : w6.cell? ⟨w4.heap.size, 1, none⟩ = some (.int .i64 q2) := cell_later hb6 (by (first | assumption | exact cell_alloc (by assumption) _ | (simp [go_sem, *]; done)))
    have lw56 : w5.heap.size < w6.heap.size := by omega
    have pw5_6_0 : w6.cell? ⟨w5.heap.size, 0, none⟩ = some (.int .i64 p2) := cell_later hb6 (by (first | assumption | exact cell_alloc (by assumption) _ | (simp [go_sem, *]; done))); have pw5_6_1 : w6.cell? ⟨w5.heap.size, 1, none⟩ = some (.int .i64 q2) := cell_later hb6 (by (first | assumption | exact cell_alloc (by assumption) _ | (simp [go_sem, *]; done)))
    go_wp2_with fail
    refine Calls.mono (x_of (rleft_any a b n HN.out _) X3.out) ?_
    rintro e w7 ⟨rfl, hb7⟩
    have hs7 := hb7.size
    (try simp at hs7)
    have lw7 : w.heap.size < w7.heap.size := by omega
    have pw_7_0 : w7.cell? ⟨w.heap.size, 0, none⟩ = some (.int .i64 a) := cell_later hb7 (by (first | assumption | exact cell_alloc (by assumption) _ | (simp [go_sem, *]; done))); have pw_7_1 : w7.cell? ⟨w.heap.size, 1, none⟩ = some (.int .i64 b) := cell_later hb7 (by (first | assumption | exact cell_alloc (by assumption) _ | (simp [go_sem, *]; done)))
    have lw27 : w2.heap.size < w7.heap.size := by omega
    have pw2_7_0 : w7.cell? ⟨w2.heap.size, 0, none⟩ = some (.int .i64 p1) := cell_later hb7 (by (first | assumption | exact cell_alloc (by assumption) _ | (simp [go_sem, *]; done))); have pw2_7_1 : w7.cell? ⟨w2.heap.size, 1, none⟩ = some (.int .i64 q1) := cell_later hb7 (by (first | assumption | exact cell_alloc (by assumption) _ | (simp [go_sem, *]; done)))
    have lw37 : w3.heap.size < w7.heap.size := by omega
    have pw3_7_0 : w7.cell? ⟨w3.heap.size, 0, none⟩ = some (.int .i64 p1) := cell_later hb7 (by (first | assumption | exact cell_alloc (by assumption) _ | (simp [go_sem, *]; done))); have pw3_7_1 : w7.cell? ⟨w3.heap.size, 1, none⟩ = some (.int .i64 q1) := cell_later hb7 (by (first | assumption | exact cell_alloc (by assumption) _ | (simp [go_sem, *]; done)))
    have lw47 : w4.heap.size < w7.heap.size := by omega
    have pw4_7_0 : w7.cell? ⟨w4.heap.size, 0, none⟩ = some (.int .i64 p2) := cell_later hb7 (by (first | assumption | exact cell_alloc (by assumption) _ | (simp [go_sem, *]; done))); have pw4_7_1 : w7.cell? ⟨w4.heap.size, 1, none⟩ = some (.int .i64 q2) := cell_later hb7 (by (first | assumption | exact cell_alloc (by assumption) _ | (simp [go_sem, *]; done)))
    have lw57 : w5.heap.size < w7.heap.size := by omega
    have pw5_7_0 : w7.cell? ⟨w5.heap.size, 0, none⟩ = some (.int .i64 p2) := cell_later hb7 (by (first | assumption | exact cell_alloc (by assumption) _ | (simp [go_sem, *]; done))); have pw5_7_1 : w7.cell? ⟨w5.heap.size, 1, none⟩ = some (.int .i64 q2) := cell_later hb7 (by (first | assumption | exact cell_alloc (by assumption) _ | (simp [go_sem, *]; done)))
    have lw67 : w6.heap.size < w7.heap.size := by omega
    have pw6_7_0 : w7.cell? ⟨w6.heap.size, 0, none⟩ = some (.int .i64 p3) := cell_later hb7 (by (first | assumption | exact cell_alloc (by assumption) _ | (simp [go_sem, *]; done))); have pw6_7_1 : w7.cell? ⟨w6.heap.size, 1, none⟩ = some (.int .i64 q3) := cell_later hb7 (by (first | assumption | exact cell_alloc (by assumption) _ | (simp [go_sem, *]; done)))
    go_wp2_with fail
    go_ret
    exact retB rfl (by repeat (first | exact Below.refl _ _ | assumption | refine Below.drew ?_ | refine below_drewN ?_ _ | refine Below.alloc ?_ (by first | omega | (simp; done) | (simp; omega)) _ | refine Below.setCell ?_ (by first | omega | (simp; done) | (simp; omega)) _ | refine Below.trans ?_ (Below.mono (by assumption) (by first | omega | (simp; done) | (simp; omega)))))
  · have d0 : decide ((70 : Int) < (zs.length : Int)) = true := by simp; omega
    go_enter Try.func3, Try.ntmps3
    go_wp2_with fail
    refine Calls.mono (head_any _) ?_
    rintro e w1 ⟨rfl, hb1⟩; have hs1 := hb1.size; (try simp at hs1)
    go_wp2_with fail
    go_ret
    exact retB rfl (by repeat (first | exact Below.refl _ _ | assumption | refine Below.drew ?_ | refine below_drewN ?_ _ | refine Below.alloc ?_ (by first | omega | (simp; done) | (simp; omega)) _ | refine Below.setCell ?_ (by first | omega | (simp; done) | (simp; omega)) _ | refine Below.trans ?_ (Below.mono (by assumption) (by first | omega | (simp; done) | (simp; omega)))))
theorem walk (w : World) (a b : Int) (_ : (Lit.int .i64 a).wf = true) (_ : (Lit.int .i64 b).wf = true) (n : Int) (hn : -9223372036854775808 ≤ n ∧ n < 9223372036854775808) (m : Int) (_ : -9223372036854775808 ≤ m ∧ m < 9223372036854775808) (sa : Option Addr) (cap : Nat) (zs : List Int) (hI : Ints w sa zs) (hz : zs.length < 9223372036854775808) :
    Calls Try.prog 3 #[.agg #[.int .i64 a, .int .i64 b], .int .i64 n, .int .i64 m, .slice sa zs.length cap] w (RetB (.bool true) w) := by
  obtain ⟨⟨p1, q1, e1⟩, h1⟩ : ∃ x, scX a b n m = x := ⟨_, rfl⟩
  obtain ⟨⟨p2, q2, e2⟩, h2⟩ : ∃ x, chX a b zs = x := ⟨_, rfl⟩
  obtain ⟨⟨p3, q3, e3⟩, h3⟩ : ∃ x, lfX a b n = x := ⟨_, rfl⟩
  exact law a b n m hn sa cap zs hz w hI p1 q1 e1 p2 q2 e2 p3 q3 e3 h1 h2 h3
end MigrateMatchesReference
namespace MigrateMatchesReference
set_option maxRecDepth 100000 in
theorem entry (H : Type) (enc : TypeId × Value → H) (W : World) (base : Nat) (args : Array Value) (ds : List (DataW H)) (p : List MemPlace)
    (hval : ∀ (j : Nat) t v, Try.f3.params[j]? = some t → args[j]? = some v → Value.okWide Try.prog W .any base t v)
    (hA : DataW.TrodAll enc Try.prog W 0 (fun _ => true) true Try.f3.params.toList args.toList ds p) :
    Calls Try.prog 3 args W (RetB (.bool true) W) := by
  rw [Try.params3] at hA hval
  obtain ⟨v0, vs0, d0, ds0, p0, q0, hargs, rfl, rfl, h0, r0⟩ := trodAll_cons hA
  obtain ⟨v1, vs1, d1, ds1, p1, q1, rfl, rfl, rfl, h1, r1⟩ := trodAll_cons r0
  obtain ⟨v2, vs2, d2, ds2, p2, q2, rfl, rfl, rfl, h2, r2⟩ := trodAll_cons r1
  obtain ⟨v3, vs3, d3, ds3, p3, q3, rfl, rfl, rfl, h3, r3⟩ := trodAll_cons r2
  obtain ⟨rfl, rfl, rfl⟩ := trodAll_nil r3
  obtain rfl : args = #[v0, v1, v2, v3] := by cases args; simp_all
  obtain ⟨a0, a1, rfl, ax, ay⟩ := open_interval (hval 0 23 v0 rfl rfl) h0
  obtain ⟨n, rfl, no⟩ := open_i64 (hval 1 3 v1 rfl rfl) h1
  obtain ⟨m, rfl, mo⟩ := open_i64 (hval 2 3 v2 rfl rfl) h2
  obtain ⟨la, lc, l, rfl, lI, ll⟩ := open_ints_at (hval 3 24 v3 rfl rfl) h3
  exact walk W a0 a1 ax ay n no m mo la lc l lI ll
end MigrateMatchesReference
/-! The step from the walk to the row of MigrateMatchesReference. -/
namespace MigrateMatchesReference
set_option maxRecDepth 100000 in
theorem lifted (os : Os) (started : os.Started) (H : Type) (enc : TypeId × Value → H) :
    ReturnsInHanded {} Try.checked os 3 .any (Rows.migrateMatchesReferenceSpec.pre6 enc Try.prog Try.f3 Rows.migrateMatchesReferenceRow.domain false) (Rows.migrateMatchesReferenceSpec.post enc Try.prog Try.f3 false true false false) := by
  refine returnsInHanded_of_change (C := Try.checked) own started (by kernel_rfl) Try.func3
    (ChangeSpec.witness6 (enc := enc) (C := Try.checked) false ⟨#[], #[.agg #[.int .i64 0, .int .i64 0], .int .i64 0, .int .i64 0, .slice none 0 0], []⟩ 8 (by kernel_rfl) (by kernel_rfl) (by kernel_rfl) (by kernel_rfl)) ?_
  intro W base args ds gs before hval0 hW hcnd _
  have hval : ∀ (j : Nat) t v, Try.f3.params[j]? = some t → args[j]? = some v → Value.okWide Try.prog W .any base t v := hval0
  have hW' := hW
  obtain ⟨p, q, hA0, hV, rfl, hfz, hnd⟩ := hW
  have hA : DataW.TrodAll enc Try.prog W 0 (fun _ => true) true Try.f3.params.toList args.toList ds p := hA0
  obtain ⟨rfl, rfl⟩ := trodVars_none hV
  have hlen := trodAll_len _ _ _ _ hA
  obtain ⟨d0, d1, d2, d3, rfl⟩ : ∃ d0 d1 d2 d3, ds = [d0, d1, d2, d3] := by
    rw [Try.params3] at hlen
    exact list4 hlen
  refine (entry H enc W base args [d0, d1, d2, d3] p hval hA).mono fun e W' ⟨he, bel⟩ => ?_
  subst he
  exact ⟨_, rfl, _, _, _, [], _, [], hW', trodAll_mk1 (shut_bool Try.underlying4 _), readback laidOut _ _ _ _ (by rw [Try.params3]; exact of_decide_eq_true (by kernel_rfl)) hA bel, rfl, bel.frame _, fun h => by cases h⟩

theorem over : Rows.migrateMatchesReferenceRow.holds Try.pinned (OpenSpec.ofChange Rows.migrateMatchesReferenceSpec) :=
  OpenClaim.holds_of_wide 3 Try.f3 rfl rfl rfl rfl rfl rfl rfl ⟨rfl, rfl, rfl, rfl, rfl⟩ rfl rfl rfl rfl rfl (by kernel_rfl) Try.func3 (by kernel_rfl)
    (of_decide_eq_true (by kernel_rfl)) (by unfold Func.isWrapper; first | (rw [if_pos (by decide +kernel)]; kernel_rfl) | (rw [if_neg (by decide +kernel)]; exact ⟨rfl, rfl⟩))
    (fun os started H enc _ => lifted os started H enc)

/-- THE STATEMENT -/
theorem proved : Rows.MigrateMatchesReferenceSaid := over
end MigrateMatchesReference
#print axioms MigrateMatchesReference.proved
end Go.Proofs.Ytknfpdccidhhkaa
