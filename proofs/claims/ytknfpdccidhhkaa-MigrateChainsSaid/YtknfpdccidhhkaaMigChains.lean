


/- MigrateChains: a chain has the life of a single step at least, and of its parts: the call of the law returns true, for every input. -/
import Derived.Test.YtknfpdccidhhkaaMigOpen
import Derived.Test.YtknfpdccidhhkaaMigT
import Derived.Test.YtknfpdccidhhkaaMigW
namespace Go.Proofs.Ytknfpdccidhhkaa
open Go.ChangeShapes Go.WideShapes Go.ChangeAt Go.RowKit Go.Joins

namespace MigrateChains
theorem x_of {f : FuncId} {x : Int × Int × Int} {p q e : Int} {args : Array Value} {w : World} (h : Calls Try.prog f args w (RetX x w)) (hx : x = (p, q, e)) : Calls Try.prog f args w (fun e' w' => e' = .returned (.tuple #[.agg #[.int .i64 p, .int .i64 q], .int .i64 e]) ∧ Below w.heap.size w w') := by
  subst hx
  exact h
theorem xB_of {f : FuncId} {x : Int × Int × Int} {p q e : Int} {args : Array Value} {w : World} (h : Calls Try.prog f args w (RetX x w)) (hx : x = (p, q, e)) : Calls Try.prog f args w (RetB (.tuple #[.agg #[.int .i64 p, .int .i64 q], .int .i64 e]) w) := by
  subst hx
  exact h
theorem ints_take {w : World} {a : Option Addr} {l : List Int} {k : Nat} (h : Ints w a l) : Ints w a (l.take k) := fun j hj => by
  obtain ⟨b, off, ha, hc⟩ := h j (by simp at hj; omega)
  exact ⟨b, off, ha, by rw [ig_take (by simp at hj; omega)]; exact hc⟩
theorem ints_drop {w : World} {b off : Nat} {l : List Int} {k : Nat} (h : Ints w (some ⟨b, off, none⟩) l) : Ints w (some ⟨b, off + k, none⟩) (l.drop k) := fun j hj => by
  obtain ⟨b', off', ha, hc⟩ := h (k + j) (by simp at hj; omega)
  simp only [Option.some.injEq, Addr.mk.injEq] at ha
  obtain ⟨rfl, rfl, _⟩ := ha
  exact ⟨_, _, rfl, by rw [ig_drop, Nat.add_assoc]; exact hc⟩
theorem ints_at {w : World} {b off : Nat} {l : List Int} (h : Ints w (some ⟨b, off, none⟩) l) (hl : 1 ≤ l.length) : w.cell? ⟨b, off, none⟩ = some (.int .i64 (ig l 0)) := by
  obtain ⟨b', off', ha, hc⟩ := h 0 (by omega)
  simp only [Option.some.injEq, Addr.mk.injEq] at ha
  obtain ⟨rfl, rfl, _⟩ := ha
  exact hc
theorem ints_at' {w : World} {b off j : Nat} {l : List Int} (h : Ints w (some ⟨b, off, none⟩) l) (hl : j < l.length) : w.cell? ⟨b, off + j, none⟩ = some (.int .i64 (ig l j)) := by
  obtain ⟨b', off', ha, hc⟩ := h j hl
  simp only [Option.some.injEq, Addr.mk.injEq] at ha
  obtain ⟨rfl, rfl, _⟩ := ha
  exact hc
set_option maxRecDepth 100000 in
set_option maxHeartbeats 4000000 in
theorem no (a b : Int) (sa : Option Addr) (cap : Nat) (zs : List Int) (raw : Int) (h : zs.length = 0 ∨ 60 < zs.length) (hl : zs.length < 9223372036854775808) (w : World) : Calls Try.prog 7 #[.agg #[.int .i64 a, .int .i64 b], .slice sa zs.length cap, .int .u8 raw] w (RetB (.bool true) w) := by
  rcases h with h | h
  · rw [h]
    go_enter Try.func7, Try.ntmps7
    go_wp2_with fail
    refine Calls.mono (head_any _) ?_
    rintro e w1 ⟨rfl, hb1⟩; have hs1 := hb1.size; (try simp at hs1)
    go_wp2_with fail
    go_ret
    exact retB rfl (by repeat (first | exact Below.refl _ _ | assumption | refine Below.drew ?_ | refine below_drewN ?_ _ | refine Below.alloc ?_ (by first | omega | (simp; done) | (simp; omega)) _ | refine Below.setCell ?_ (by first | omega | (simp; done) | (simp; omega)) _ | refine Below.trans ?_ (Below.mono (by assumption) (by first | omega | (simp; done) | (simp; omega)))))
  · have d0 : ((zs.length : Int) == 0) = false := by simp; intro h0; rw [h0] at h; simp at h
    have d1 : decide ((60 : Int) < (zs.length : Int)) = true := by simp; omega
    go_enter Try.func7, Try.ntmps7
    go_wp2_with fail
    refine Calls.mono (head_any _) ?_
    rintro e w1 ⟨rfl, hb1⟩; have hs1 := hb1.size; (try simp at hs1)
    go_wp2_with fail
    go_ret
    exact retB rfl (by repeat (first | exact Below.refl _ _ | assumption | refine Below.drew ?_ | refine below_drewN ?_ _ | refine Below.alloc ?_ (by first | omega | (simp; done) | (simp; omega)) _ | refine Below.setCell ?_ (by first | omega | (simp; done) | (simp; omega)) _ | refine Below.trans ?_ (Below.mono (by assumption) (by first | omega | (simp; done) | (simp; omega)))))
set_option maxRecDepth 100000 in
set_option maxHeartbeats 8000000 in
theorem bad (a b : Int) (lb lo cap : Nat) (zs : List Int) (raw : Int) (h1 : 1 ≤ zs.length) (h6 : zs.length ≤ 60) (hcap : zs.length ≤ cap) (hcm : cap ≤ 9223372036854775807) (k : Nat) (hk : k < zs.length) (hr0 : 0 ≤ raw) (hr1 : raw < 256) (hkr : raw % (zs.length : Int) = (k : Int)) (p q e0 r s f : Int) (hp : p = 0) (hq : q = 0) (he0 : e0 ≠ 0) (x1 : chX a b zs = (p, q, e0)) (x2 : chX a b (zs.take (k + 1)) = (r, s, f)) (w : World) (hI : Ints w (some ⟨lb, lo, none⟩) zs) :
    Calls Try.prog 7 #[.agg #[.int .i64 a, .int .i64 b], .slice (some ⟨lb, lo, none⟩) zs.length cap, .int .u8 raw] w (RetB (.bool true) w) := by
  have HP := Lib.hid hp
  have HQ := Lib.hid hq
  have d2 : (e0 != 0) = true := by simpa using he0
  clear hp hq he0
  have X1 := Lib.hid x1
  have X2 := Lib.hid x2
  have HI := Lib.hid hI
  have d0 : ((zs.length : Int) == 0) = false := by simp; intro h0; rw [h0] at h1; simp at h1
  have d1 : decide ((60 : Int) < (zs.length : Int)) = false := by simp; omega
  have z0 : (0 : Int) < (zs.length : Int) := by omega
  have z1 : (zs.length : Int) ≤ (cap : Int) := by omega
  have z2 : (k : Int) + 1 ≤ (cap : Int) := by omega
  have z3 : (0 : Int) ≤ (k : Int) + 1 := by omega
  have z4 : IntKind.i64.wrap ((k : Int) + 1) = (k : Int) + 1 := IntWalk.i64_in _ (by omega)
  have C2 := fun (wx : World) (h : Ints wx (some ⟨lb, lo, none⟩) (zs.take (k + 1))) => xB_of (chain_any a b (some ⟨lb, lo, none⟩) cap (zs.take (k + 1)) wx h) X2.out
  simp only [show (zs.take (k + 1)).length = k + 1 by simp; omega] at C2
  have HC2 := Lib.hid C2
  clear x1 x2 hI C2
  go_enter Try.func7, Try.ntmps7
  go_wp2_with fail
  refine Calls.mono (head_any _) ?_
  rintro e w1 ⟨rfl, hb1⟩; have hs1 := hb1.size; (try simp at hs1)
  have _c0 : w1.cell? ⟨w.heap.size, 0, none⟩ = some (.int .i64 a) := cell_later hb1 (by first | assumption | (simp [go_sem, *]; done) | exact cell_later' (by assumption) (by repeat (first | exact Below.refl _ _ | assumption | refine Below.drew ?_ | refine below_drewN ?_ _ | refine Below.alloc ?_ (by first | omega | (simp; done) | (simp; omega)) _ | refine Below.setCell ?_ (by first | omega | (simp; done) | (simp; omega)) _ | refine Below.trans ?_ (Below.mono (by assumption) (by first | omega | (simp; done) | (simp; omega)))))); have _f0 : w1.frozen? ⟨w.heap.size, 0, none⟩ = false := (hb1.frozen (p := ⟨w.heap.size, 0, none⟩) (by first | omega | (simp; done) | (simp; omega))).trans (by first | assumption | (simp [go_sem, *]; done) | exact frozen_later' (by assumption) (by first | omega | (simp; done) | (simp; omega)) (by repeat (first | exact Below.refl _ _ | assumption | refine Below.drew ?_ | refine below_drewN ?_ _ | refine Below.alloc ?_ (by first | omega | (simp; done) | (simp; omega)) _ | refine Below.setCell ?_ (by first | omega | (simp; done) | (simp; omega)) _ | refine Below.trans ?_ (Below.mono (by assumption) (by first | omega | (simp; done) | (simp; omega)))))); have _c1 : w1.cell? ⟨w.heap.size, 1, none⟩ = some (.int .i64 b) := cell_later hb1 (by first | assumption | (simp [go_sem, *]; done) | exact cell_later' (by assumption) (by repeat (first | exact Below.refl _ _ | assumption | refine Below.drew ?_ | refine below_drewN ?_ _ | refine Below.alloc ?_ (by first | omega | (simp; done) | (simp; omega)) _ | refine Below.setCell ?_ (by first | omega | (simp; done) | (simp; omega)) _ | refine Below.trans ?_ (Below.mono (by assumption) (by first | omega | (simp; done) | (simp; omega)))))); have _f1 : w1.frozen? ⟨w.heap.size, 1, none⟩ = false := (hb1.frozen (p := ⟨w.heap.size, 1, none⟩) (by first | omega | (simp; done) | (simp; omega))).trans (by first | assumption | (simp [go_sem, *]; done) | exact frozen_later' (by assumption) (by first | omega | (simp; done) | (simp; omega)) (by repeat (first | exact Below.refl _ _ | assumption | refine Below.drew ?_ | refine below_drewN ?_ _ | refine Below.alloc ?_ (by first | omega | (simp; done) | (simp; omega)) _ | refine Below.setCell ?_ (by first | omega | (simp; done) | (simp; omega)) _ | refine Below.trans ?_ (Below.mono (by assumption) (by first | omega | (simp; done) | (simp; omega))))))
  go_wp2_with fail
  refine Calls.mono (x_of (chain_any a b _ cap zs _ (HI.out.later (by repeat (first | exact Below.refl _ _ | assumption | refine Below.drew ?_ | refine below_drewN ?_ _ | refine Below.alloc ?_ (by first | omega | (simp; done) | (simp; omega)) _ | refine Below.setCell ?_ (by first | omega | (simp; done) | (simp; omega)) _ | refine Below.trans ?_ (Below.mono (by assumption) (by first | omega | (simp; done) | (simp; omega))))))) X1.out) ?_
  rintro e' w2 ⟨rfl, hb2⟩
  have hs2 := hb2.size
  have l2 : w.heap.size < w2.heap.size := by omega
  have p20 : w2.cell? ⟨w.heap.size, 0, none⟩ = some (.int .i64 a) := cell_later hb2 (by (first | assumption | exact cell_alloc (by assumption) _ | (simp [go_sem, *]; done))); have p21 : w2.cell? ⟨w.heap.size, 1, none⟩ = some (.int .i64 b) := cell_later hb2 (by (first | assumption | exact cell_alloc (by assumption) _ | (simp [go_sem, *]; done)))
  go_wp2_with fail
  simp only [hkr]
  have hk2 : Below w.heap.size w w2 := (by repeat (first | exact Below.refl _ _ | assumption | refine Below.drew ?_ | refine below_drewN ?_ _ | refine Below.alloc ?_ (by first | omega | (simp; done) | (simp; omega)) _ | refine Below.setCell ?_ (by first | omega | (simp; done) | (simp; omega)) _ | refine Below.trans ?_ (Below.mono (by assumption) (by first | omega | (simp; done) | (simp; omega)))))
  have hS : ∀ wx : World, Below (w2.alloc (Obj.cells #[.int .i64 p, .int .i64 q] 23)).heap.size (w2.alloc (Obj.cells #[.int .i64 p, .int .i64 q] 23)) wx → (Ints wx (some ⟨lb, lo, none⟩) (zs.take (k + 1)) ∧ wx.cell? ⟨w.heap.size, 0, none⟩ = some (.int .i64 a) ∧ wx.cell? ⟨w.heap.size, 1, none⟩ = some (.int .i64 b)) := fun wx hbx => ⟨ints_take (HI.out.later (by
    have hbx' := hbx
    (repeat (first | exact Below.refl _ _ | assumption | refine Below.drew ?_ | refine below_drewN ?_ _ | refine Below.alloc ?_ (by first | omega | (simp; done) | (simp; omega)) _ | refine Below.setCell ?_ (by first | omega | (simp; done) | (simp; omega)) _ | refine Below.trans ?_ (Below.mono (by assumption) (by first | omega | (simp; done) | (simp; omega))))))), cell_later hbx (by (first | assumption | exact cell_alloc (by assumption) _ | (simp [go_sem, *]; done))), cell_later hbx (by (first | assumption | exact cell_alloc (by assumption) _ | (simp [go_sem, *]; done)))⟩
  have hnd : (List.map Bx.k [PB 9 10 [.int .i64 0, .int .i64 0] [.int .i64 r, .int .i64 s]]).Nodup := by simp
  refine wp_flow_s [PB 9 10 [.int .i64 0, .int .i64 0] [.int .i64 r, .int .i64 s]] [] (by kernel_rfl) (by kernel_rfl) (by kernel_rfl) ?_
  repeat (first | ((with_reducible refine Flow.pure hS StayG.nil (v := ?_) ?_ ?_ ?_ ?_); rotate_left 1; (focus kernel_rfl); (focus (intro _; rfl)); (focus (intro β wx hSw; (try dsimp only at hSw); go_simp; (try with_reducible rfl); done)); (try simp only [Act.put, List.setIfInBounds_toArray, List.set_cons_zero, List.set_cons_succ, Nat.reduceAdd])) | ((with_reducible refine Flow.call hS StayG.nil (v := ?_) ?_ ?_ ?_ ?_); rotate_left 1; (focus kernel_rfl); (focus (intro _; rfl)); (focus (intro β L wx hI hat hSw K' hK; (try dsimp only at hSw); go_simp; go_at_call 12; refine Calls.mono (HC2.out _ hSw.1) ?_; rintro e w' ⟨rfl, hb'⟩; exact hK.out _ hb')); (try simp only [Act.put, List.setIfInBounds_toArray, List.set_cons_zero, List.set_cons_succ, Nat.reduceAdd])) | ((with_reducible refine Flow.make hS StayG.nil (PB 9 10 [.int .i64 0, .int .i64 0] [.int .i64 r, .int .i64 s]) 23 hnd ?_ ?_ ?_ ?_ ?_ ?_ ?_ ?_ ?_); (focus (simp; done)); (focus rfl); (focus kernel_rfl); (focus kernel_rfl); (focus (exact Or.inr ⟨_, rfl, by decide, by kernel_rfl⟩)); (focus (intro _; rfl)); (focus (intro _; rfl)); (focus (intro β wx hSw; (try dsimp only at hSw); go_simp; (try with_reducible rfl); done)); (try simp only [Act.put, List.setIfInBounds_toArray, List.set_cons_zero, List.set_cons_succ, Nat.reduceAdd])) | ((with_reducible refine Flow.store hS (fun _ h => absurd h (by simp)) (PB 9 10 [.int .i64 0, .int .i64 0] [.int .i64 r, .int .i64 s]) hnd ?_ ?_ ?_ ?_ ?_ ?_ ?_ ?_ ?_ ?_); (focus (simp; done)); (focus rfl); (focus rfl); (focus kernel_rfl); (focus kernel_rfl); (focus kernel_rfl); (focus kernel_rfl); (focus (intro _; rfl)); (focus (intro β n wx hSw hβ hc; (try dsimp only at hSw hβ); (have hc0 := hc 0 _ rfl; have hc1 := hc 1 _ rfl; obtain ⟨hc0, hf0⟩ := hc0; obtain ⟨hc1, hf1⟩ := hc1); clear hc; simp only [World.setCells]; go_simp; (try with_reducible rfl); done)); (try simp only [Act.put, Nat.reduceAdd])))
  ((with_reducible refine Flow.stop ?_); dsimp only; intro β w3 hI3)
  obtain ⟨te, tlo, thi, tq⟩ := (hI3).box (PB 9 10 [.int .i64 0, .int .i64 0] [.int .i64 r, .int .i64 s]) (by simp) rfl; have tc0 := (tq 0 _ rfl).1; have tc1 := (tq 1 _ rfl).1; have tf0 := (tq 0 _ rfl).2; have tf1 := (tq 1 _ rfl).2; clear tq; obtain ⟨n3, tn⟩ : ∃ n, n = blk (β 9) := ⟨_, rfl⟩; dsimp only [PB] at te tlo thi tc0 tc1 tf0 tf1; rw [← tn] at te tlo thi tc0 tc1 tf0 tf1; rw [te]; clear te tn
  have hb3 := hI3.below
  have hs3 := hb3.size
  simp at hs3
  have l3 : w.heap.size < w3.heap.size := by omega
  have l3b : w2.heap.size < w3.heap.size := by omega
  have p30 : w3.cell? ⟨w.heap.size, 0, none⟩ = some (.int .i64 a) := cell_later hb3 (by (first | assumption | exact cell_alloc (by assumption) _ | (simp [go_sem, *]; done))); have p31 : w3.cell? ⟨w.heap.size, 1, none⟩ = some (.int .i64 b) := cell_later hb3 (by (first | assumption | exact cell_alloc (by assumption) _ | (simp [go_sem, *]; done)))
  have q30 : w3.cell? ⟨w2.heap.size, 0, none⟩ = some (.int .i64 p) := cell_later hb3 (by (first | assumption | exact cell_alloc (by assumption) _ | (simp [go_sem, *]; done))); have q31 : w3.cell? ⟨w2.heap.size, 1, none⟩ = some (.int .i64 q) := cell_later hb3 (by (first | assumption | exact cell_alloc (by assumption) _ | (simp [go_sem, *]; done)))
  simp at tlo
  have hk3 : Below w.heap.size w w3 := (by repeat (first | exact Below.refl _ _ | assumption | refine Below.drew ?_ | refine below_drewN ?_ _ | refine Below.alloc ?_ (by first | omega | (simp; done) | (simp; omega)) _ | refine Below.setCell ?_ (by first | omega | (simp; done) | (simp; omega)) _ | refine Below.trans ?_ (Below.mono (by assumption) (by first | omega | (simp; done) | (simp; omega)))))
  clear hS hnd hI3
  go_wp2_with fail
  have hp := HP.out
  have hq := HQ.out
  subst hp hq
  have hS : ∀ wx : World, Below w3.heap.size w3 wx → (wx.cell? ⟨w2.heap.size, 0, none⟩ = some (.int .i64 0) ∧ wx.cell? ⟨w2.heap.size, 1, none⟩ = some (.int .i64 0)) := by (intro wx hbx; (repeat' apply And.intro) <;> exact cell_later hbx (by (first | assumption | exact cell_alloc (by assumption) _ | (simp [go_sem, *]; done))))
  refine wp_flow_s [] [] (by kernel_rfl) (by kernel_rfl) (by kernel_rfl) ?_
  repeat (first | ((with_reducible refine Flow.pure hS StayG.nil (v := ?_) ?_ ?_ ?_ ?_); rotate_left 1; (focus kernel_rfl); (focus (intro _; rfl)); (focus (intro β wx hSw; (try dsimp only at hSw); go_simp; (try with_reducible rfl); done)); (try simp only [Act.put, List.setIfInBounds_toArray, List.set_cons_zero, List.set_cons_succ, Nat.reduceAdd])) | ((with_reducible refine Flow.call hS StayG.nil (v := ?_) ?_ ?_ ?_ ?_); rotate_left 1; (focus kernel_rfl); (focus (intro _; rfl)); (focus (intro β L wx hI hat hSw K' hK; (try dsimp only at hSw); go_simp; go_at_call 16; refine Calls.mono (of_any _ _ _) ?_; rintro e w' ⟨rfl, hb'⟩; exact hK.out _ hb')); (try simp only [Act.put, List.setIfInBounds_toArray, List.set_cons_zero, List.set_cons_succ, Nat.reduceAdd])))
  ((with_reducible refine Flow.stop ?_); dsimp only; intro β4 w4 hI4)
  have hb4 := hI4.below
  go_wp2_with fail
  go_ret
  exact retB rfl (hk3.trans (hb4.mono (by omega)))
set_option maxRecDepth 100000 in
set_option maxHeartbeats 8000000 in
theorem good (a b : Int) (lb lo cap : Nat) (zs : List Int) (raw : Int) (h1 : 1 ≤ zs.length) (h6 : zs.length ≤ 60) (hcap : zs.length ≤ cap) (hcm : cap ≤ 9223372036854775807) (k : Nat) (hk : k < zs.length) (hr0 : 0 ≤ raw) (hr1 : raw < 256) (hkr : raw % (zs.length : Int) = (k : Int)) (p q r s u v : Int) (x1 : chX a b zs = (p, q, 0)) (x2 : chX a b (zs.take (k + 1)) = (r, s, 0)) (x3 : chX r s (zs.drop k) = (p, q, 0)) (x4 : scX a b (ig zs 0) (ig zs (zs.length - 1)) = (u, v, 0)) (hpu : p ≤ u) (hvq : v ≤ q) (w : World) (hI : Ints w (some ⟨lb, lo, none⟩) zs) :
    Calls Try.prog 7 #[.agg #[.int .i64 a, .int .i64 b], .slice (some ⟨lb, lo, none⟩) zs.length cap, .int .u8 raw] w (RetB (.bool true) w) := by
  have X3 := Lib.hid x3
  have X4 := Lib.hid x4
  clear x3 x4
  have X1 := Lib.hid x1
  have X2 := Lib.hid x2
  have HI := Lib.hid hI
  have d0 : ((zs.length : Int) == 0) = false := by simp; intro h0; rw [h0] at h1; simp at h1
  have d1 : decide ((60 : Int) < (zs.length : Int)) = false := by simp; omega
  have z0 : (0 : Int) < (zs.length : Int) := by omega
  have z1 : (zs.length : Int) ≤ (cap : Int) := by omega
  have z2 : (k : Int) + 1 ≤ (cap : Int) := by omega
  have z3 : (0 : Int) ≤ (k : Int) + 1 := by omega
  have z4 : IntKind.i64.wrap ((k : Int) + 1) = (k : Int) + 1 := IntWalk.i64_in _ (by omega)
  have C2 := fun (wx : World) (h : Ints wx (some ⟨lb, lo, none⟩) (zs.take (k + 1))) => xB_of (chain_any a b (some ⟨lb, lo, none⟩) cap (zs.take (k + 1)) wx h) X2.out
  simp only [show (zs.take (k + 1)).length = k + 1 by simp; omega] at C2
  have HC2 := Lib.hid C2
  clear x1 x2 hI C2
  go_enter Try.func7, Try.ntmps7
  go_wp2_with fail
  refine Calls.mono (head_any _) ?_
  rintro e w1 ⟨rfl, hb1⟩; have hs1 := hb1.size; (try simp at hs1)
  have _c0 : w1.cell? ⟨w.heap.size, 0, none⟩ = some (.int .i64 a) := cell_later hb1 (by first | assumption | (simp [go_sem, *]; done) | exact cell_later' (by assumption) (by repeat (first | exact Below.refl _ _ | assumption | refine Below.drew ?_ | refine below_drewN ?_ _ | refine Below.alloc ?_ (by first | omega | (simp; done) | (simp; omega)) _ | refine Below.setCell ?_ (by first | omega | (simp; done) | (simp; omega)) _ | refine Below.trans ?_ (Below.mono (by assumption) (by first | omega | (simp; done) | (simp; omega)))))); have _f0 : w1.frozen? ⟨w.heap.size, 0, none⟩ = false := (hb1.frozen (p := ⟨w.heap.size, 0, none⟩) (by first | omega | (simp; done) | (simp; omega))).trans (by first | assumption | (simp [go_sem, *]; done) | exact frozen_later' (by assumption) (by first | omega | (simp; done) | (simp; omega)) (by repeat (first | exact Below.refl _ _ | assumption | refine Below.drew ?_ | refine below_drewN ?_ _ | refine Below.alloc ?_ (by first | omega | (simp; done) | (simp; omega)) _ | refine Below.setCell ?_ (by first | omega | (simp; done) | (simp; omega)) _ | refine Below.trans ?_ (Below.mono (by assumption) (by first | omega | (simp; done) | (simp; omega)))))); have _c1 : w1.cell? ⟨w.heap.size, 1, none⟩ = some (.int .i64 b) := cell_later hb1 (by first | assumption | (simp [go_sem, *]; done) | exact cell_later' (by assumption) (by repeat (first | exact Below.refl _ _ | assumption | refine Below.drew ?_ | refine below_drewN ?_ _ | refine Below.alloc ?_ (by first | omega | (simp; done) | (simp; omega)) _ | refine Below.setCell ?_ (by first | omega | (simp; done) | (simp; omega)) _ | refine Below.trans ?_ (Below.mono (by assumption) (by first | omega | (simp; done) | (simp; omega)))))); have _f1 : w1.frozen? ⟨w.heap.size, 1, none⟩ = false := (hb1.frozen (p := ⟨w.heap.size, 1, none⟩) (by first | omega | (simp; done) | (simp; omega))).trans (by first | assumption | (simp [go_sem, *]; done) | exact frozen_later' (by assumption) (by first | omega | (simp; done) | (simp; omega)) (by repeat (first | exact Below.refl _ _ | assumption | refine Below.drew ?_ | refine below_drewN ?_ _ | refine Below.alloc ?_ (by first | omega | (simp; done) | (simp; omega)) _ | refine Below.setCell ?_ (by first | omega | (simp; done) | (simp; omega)) _ | refine Below.trans ?_ (Below.mono (by assumption) (by first | omega | (simp; done) | (simp; omega))))))
  go_wp2_with fail
  refine Calls.mono (x_of (chain_any a b _ cap zs _ (HI.out.later (by repeat (first | exact Below.refl _ _ | assumption | refine Below.drew ?_ | refine below_drewN ?_ _ | refine Below.alloc ?_ (by first | omega | (simp; done) | (simp; omega)) _ | refine Below.setCell ?_ (by first | omega | (simp; done) | (simp; omega)) _ | refine Below.trans ?_ (Below.mono (by assumption) (by first | omega | (simp; done) | (simp; omega))))))) X1.out) ?_
  rintro e' w2 ⟨rfl, hb2⟩
  have hs2 := hb2.size
  have l2 : w.heap.size < w2.heap.size := by omega
  have p20 : w2.cell? ⟨w.heap.size, 0, none⟩ = some (.int .i64 a) := cell_later hb2 (by (first | assumption | exact cell_alloc (by assumption) _ | (simp [go_sem, *]; done))); have p21 : w2.cell? ⟨w.heap.size, 1, none⟩ = some (.int .i64 b) := cell_later hb2 (by (first | assumption | exact cell_alloc (by assumption) _ | (simp [go_sem, *]; done)))
  go_wp2_with fail
  simp only [hkr]
  have hk2 : Below w.heap.size w w2 := (by repeat (first | exact Below.refl _ _ | assumption | refine Below.drew ?_ | refine below_drewN ?_ _ | refine Below.alloc ?_ (by first | omega | (simp; done) | (simp; omega)) _ | refine Below.setCell ?_ (by first | omega | (simp; done) | (simp; omega)) _ | refine Below.trans ?_ (Below.mono (by assumption) (by first | omega | (simp; done) | (simp; omega)))))
  have hS : ∀ wx : World, Below (w2.alloc (Obj.cells #[.int .i64 p, .int .i64 q] 23)).heap.size (w2.alloc (Obj.cells #[.int .i64 p, .int .i64 q] 23)) wx → (Ints wx (some ⟨lb, lo, none⟩) (zs.take (k + 1)) ∧ wx.cell? ⟨w.heap.size, 0, none⟩ = some (.int .i64 a) ∧ wx.cell? ⟨w.heap.size, 1, none⟩ = some (.int .i64 b)) := fun wx hbx => ⟨ints_take (HI.out.later (by
    have hbx' := hbx
    (repeat (first | exact Below.refl _ _ | assumption | refine Below.drew ?_ | refine below_drewN ?_ _ | refine Below.alloc ?_ (by first | omega | (simp; done) | (simp; omega)) _ | refine Below.setCell ?_ (by first | omega | (simp; done) | (simp; omega)) _ | refine Below.trans ?_ (Below.mono (by assumption) (by first | omega | (simp; done) | (simp; omega))))))), cell_later hbx (by (first | assumption | exact cell_alloc (by assumption) _ | (simp [go_sem, *]; done))), cell_later hbx (by (first | assumption | exact cell_alloc (by assumption) _ | (simp [go_sem, *]; done)))⟩
  have hnd : (List.map Bx.k [PB 9 10 [.int .i64 0, .int .i64 0] [.int .i64 r, .int .i64 s]]).Nodup := by simp
  refine wp_flow_s [PB 9 10 [.int .i64 0, .int .i64 0] [.int .i64 r, .int .i64 s]] [] (by kernel_rfl) (by kernel_rfl) (by kernel_rfl) ?_
  repeat (first | ((with_reducible refine Flow.pure hS StayG.nil (v := ?_) ?_ ?_ ?_ ?_); rotate_left 1; (focus kernel_rfl); (focus (intro _; rfl)); (focus (intro β wx hSw; (try dsimp only at hSw); go_simp; (try with_reducible rfl); done)); (try simp only [Act.put, List.setIfInBounds_toArray, List.set_cons_zero, List.set_cons_succ, Nat.reduceAdd])) | ((with_reducible refine Flow.call hS StayG.nil (v := ?_) ?_ ?_ ?_ ?_); rotate_left 1; (focus kernel_rfl); (focus (intro _; rfl)); (focus (intro β L wx hI hat hSw K' hK; (try dsimp only at hSw); go_simp; go_at_call 12; refine Calls.mono (HC2.out _ hSw.1) ?_; rintro e w' ⟨rfl, hb'⟩; exact hK.out _ hb')); (try simp only [Act.put, List.setIfInBounds_toArray, List.set_cons_zero, List.set_cons_succ, Nat.reduceAdd])) | ((with_reducible refine Flow.make hS StayG.nil (PB 9 10 [.int .i64 0, .int .i64 0] [.int .i64 r, .int .i64 s]) 23 hnd ?_ ?_ ?_ ?_ ?_ ?_ ?_ ?_ ?_); (focus (simp; done)); (focus rfl); (focus kernel_rfl); (focus kernel_rfl); (focus (exact Or.inr ⟨_, rfl, by decide, by kernel_rfl⟩)); (focus (intro _; rfl)); (focus (intro _; rfl)); (focus (intro β wx hSw; (try dsimp only at hSw); go_simp; (try with_reducible rfl); done)); (try simp only [Act.put, List.setIfInBounds_toArray, List.set_cons_zero, List.set_cons_succ, Nat.reduceAdd])) | ((with_reducible refine Flow.store hS (fun _ h => absurd h (by simp)) (PB 9 10 [.int .i64 0, .int .i64 0] [.int .i64 r, .int .i64 s]) hnd ?_ ?_ ?_ ?_ ?_ ?_ ?_ ?_ ?_ ?_); (focus (simp; done)); (focus rfl); (focus rfl); (focus kernel_rfl); (focus kernel_rfl); (focus kernel_rfl); (focus kernel_rfl); (focus (intro _; rfl)); (focus (intro β n wx hSw hβ hc; (try dsimp only at hSw hβ); (have hc0 := hc 0 _ rfl; have hc1 := hc 1 _ rfl; obtain ⟨hc0, hf0⟩ := hc0; obtain ⟨hc1, hf1⟩ := hc1); clear hc; simp only [World.setCells]; go_simp; (try with_reducible rfl); done)); (try simp only [Act.put, Nat.reduceAdd])))
  ((with_reducible refine Flow.stop ?_); dsimp only; intro β w3 hI3)
  obtain ⟨te, tlo, thi, tq⟩ := (hI3).box (PB 9 10 [.int .i64 0, .int .i64 0] [.int .i64 r, .int .i64 s]) (by simp) rfl; have tc0 := (tq 0 _ rfl).1; have tc1 := (tq 1 _ rfl).1; have tf0 := (tq 0 _ rfl).2; have tf1 := (tq 1 _ rfl).2; clear tq; obtain ⟨n3, tn⟩ : ∃ n, n = blk (β 9) := ⟨_, rfl⟩; dsimp only [PB] at te tlo thi tc0 tc1 tf0 tf1; rw [← tn] at te tlo thi tc0 tc1 tf0 tf1; rw [te]; clear te tn
  have hb3 := hI3.below
  have hs3 := hb3.size
  simp at hs3
  have l3 : w.heap.size < w3.heap.size := by omega
  have l3b : w2.heap.size < w3.heap.size := by omega
  have p30 : w3.cell? ⟨w.heap.size, 0, none⟩ = some (.int .i64 a) := cell_later hb3 (by (first | assumption | exact cell_alloc (by assumption) _ | (simp [go_sem, *]; done))); have p31 : w3.cell? ⟨w.heap.size, 1, none⟩ = some (.int .i64 b) := cell_later hb3 (by (first | assumption | exact cell_alloc (by assumption) _ | (simp [go_sem, *]; done)))
  have q30 : w3.cell? ⟨w2.heap.size, 0, none⟩ = some (.int .i64 p) := cell_later hb3 (by (first | assumption | exact cell_alloc (by assumption) _ | (simp [go_sem, *]; done))); have q31 : w3.cell? ⟨w2.heap.size, 1, none⟩ = some (.int .i64 q) := cell_later hb3 (by (first | assumption | exact cell_alloc (by assumption) _ | (simp [go_sem, *]; done)))
  simp at tlo
  have hk3 : Below w.heap.size w w3 := (by repeat (first | exact Below.refl _ _ | assumption | refine Below.drew ?_ | refine below_drewN ?_ _ | refine Below.alloc ?_ (by first | omega | (simp; done) | (simp; omega)) _ | refine Below.setCell ?_ (by first | omega | (simp; done) | (simp; omega)) _ | refine Below.trans ?_ (Below.mono (by assumption) (by first | omega | (simp; done) | (simp; omega)))))
  clear hS hnd hI3
  go_wp2_with fail
  have z5 : (k : Int) ≤ (zs.length : Int) := by omega
  have z6 : (k : Int) ≤ (cap : Int) := by omega
  have z7 : (0 : Int) ≤ (k : Int) := by omega
  have z8 : ¬ cap = k := by omega
  have C3 := fun (wx : World) (h : Ints wx (some ⟨lb, lo + k, none⟩) (zs.drop k)) => xB_of (chain_any r s (some ⟨lb, lo + k, none⟩) (cap - k) (zs.drop k) wx h) X3.out
  simp only [List.length_drop] at C3
  have HC3 := Lib.hid C3
  clear C3
  have hS : ∀ wx : World, Below w3.heap.size w3 wx → (Ints wx (some ⟨lb, lo + k, none⟩) (zs.drop k) ∧ wx.cell? ⟨n3, 0, none⟩ = some (.int .i64 r) ∧ wx.cell? ⟨n3, 1, none⟩ = some (.int .i64 s)) := fun wx hbx => ⟨ints_drop (HI.out.later (by
    have hbx' := hbx
    (repeat (first | exact Below.refl _ _ | assumption | refine Below.drew ?_ | refine below_drewN ?_ _ | refine Below.alloc ?_ (by first | omega | (simp; done) | (simp; omega)) _ | refine Below.setCell ?_ (by first | omega | (simp; done) | (simp; omega)) _ | refine Below.trans ?_ (Below.mono (by assumption) (by first | omega | (simp; done) | (simp; omega))))))), cell_later hbx (by (first | assumption | exact cell_alloc (by assumption) _ | (simp [go_sem, *]; done))), cell_later hbx (by (first | assumption | exact cell_alloc (by assumption) _ | (simp [go_sem, *]; done)))⟩
  have hnd : (List.map Bx.k [PB 8 9 [.int .i64 0, .int .i64 0] [.int .i64 p, .int .i64 q]]).Nodup := by simp
  refine wp_flow_s [PB 8 9 [.int .i64 0, .int .i64 0] [.int .i64 p, .int .i64 q]] [] (by kernel_rfl) (by kernel_rfl) (by kernel_rfl) ?_
  repeat (first | ((with_reducible refine Flow.pure hS StayG.nil (v := ?_) ?_ ?_ ?_ ?_); rotate_left 1; (focus kernel_rfl); (focus (intro _; rfl)); (focus (intro β wx hSw; (try dsimp only at hSw); go_simp; (try with_reducible rfl); done)); (try simp only [Act.put, List.setIfInBounds_toArray, List.set_cons_zero, List.set_cons_succ, Nat.reduceAdd])) | ((with_reducible refine Flow.call hS StayG.nil (v := ?_) ?_ ?_ ?_ ?_); rotate_left 1; (focus kernel_rfl); (focus (intro _; rfl)); (focus (intro β L wx hI hat hSw K' hK; (try dsimp only at hSw); go_simp; go_at_call 12; refine Calls.mono (HC3.out _ hSw.1) ?_; rintro e w' ⟨rfl, hb'⟩; exact hK.out _ hb')); (try simp only [Act.put, List.setIfInBounds_toArray, List.set_cons_zero, List.set_cons_succ, Nat.reduceAdd])) | ((with_reducible refine Flow.make hS StayG.nil (PB 8 9 [.int .i64 0, .int .i64 0] [.int .i64 p, .int .i64 q]) 23 hnd ?_ ?_ ?_ ?_ ?_ ?_ ?_ ?_ ?_); (focus (simp; done)); (focus rfl); (focus kernel_rfl); (focus kernel_rfl); (focus (exact Or.inr ⟨_, rfl, by decide, by kernel_rfl⟩)); (focus (intro _; rfl)); (focus (intro _; rfl)); (focus (intro β wx hSw; (try dsimp only at hSw); go_simp; (try with_reducible rfl); done)); (try simp only [Act.put, List.setIfInBounds_toArray, List.set_cons_zero, List.set_cons_succ, Nat.reduceAdd])) | ((with_reducible refine Flow.store hS (fun _ h => absurd h (by simp)) (PB 8 9 [.int .i64 0, .int .i64 0] [.int .i64 p, .int .i64 q]) hnd ?_ ?_ ?_ ?_ ?_ ?_ ?_ ?_ ?_ ?_); (focus (simp; done)); (focus rfl); (focus rfl); (focus kernel_rfl); (focus kernel_rfl); (focus kernel_rfl); (focus kernel_rfl); (focus (intro _; rfl)); (focus (intro β n wx hSw hβ hc; (try dsimp only at hSw hβ); (have hc0 := hc 0 _ rfl; have hc1 := hc 1 _ rfl; obtain ⟨hc0, hf0⟩ := hc0; obtain ⟨hc1, hf1⟩ := hc1); clear hc; simp only [World.setCells]; go_simp; (try with_reducible rfl); done)); (try simp only [Act.put, Nat.reduceAdd])))
  ((with_reducible refine Flow.stop ?_); dsimp only; intro β4 w4 hI4)
  obtain ⟨ue, ulo, uhi, uq⟩ := (hI4).box (PB 8 9 [.int .i64 0, .int .i64 0] [.int .i64 p, .int .i64 q]) (by simp) rfl; have uc0 := (uq 0 _ rfl).1; have uc1 := (uq 1 _ rfl).1; have uf0 := (uq 0 _ rfl).2; have uf1 := (uq 1 _ rfl).2; clear uq; obtain ⟨n4, un⟩ : ∃ n, n = blk (β4 8) := ⟨_, rfl⟩; dsimp only [PB] at ue ulo uhi uc0 uc1 uf0 uf1; rw [← un] at ue ulo uhi uc0 uc1 uf0 uf1; rw [ue]; clear ue un
  have hb4 := hI4.below
  have hs4 := hb4.size
  have l4 : w.heap.size < w4.heap.size := by omega
  have l4b : w2.heap.size < w4.heap.size := by omega
  have p40 : w4.cell? ⟨w.heap.size, 0, none⟩ = some (.int .i64 a) := cell_later hb4 (by (first | assumption | exact cell_alloc (by assumption) _ | (simp [go_sem, *]; done))); have p41 : w4.cell? ⟨w.heap.size, 1, none⟩ = some (.int .i64 b) := cell_later hb4 (by (first | assumption | exact cell_alloc (by assumption) _ | (simp [go_sem, *]; done)))
  have q40 : w4.cell? ⟨w2.heap.size, 0, none⟩ = some (.int .i64 p) := cell_later hb4 (by (first | assumption | exact cell_alloc (by assumption) _ | (simp [go_sem, *]; done))); have q41 : w4.cell? ⟨w2.heap.size, 1, none⟩ = some (.int .i64 q) := cell_later hb4 (by (first | assumption | exact cell_alloc (by assumption) _ | (simp [go_sem, *]; done)))
  have hk4 : Below w.heap.size w w4 := (by repeat (first | exact Below.refl _ _ | assumption | refine Below.drew ?_ | refine below_drewN ?_ _ | refine Below.alloc ?_ (by first | omega | (simp; done) | (simp; omega)) _ | refine Below.setCell ?_ (by first | omega | (simp; done) | (simp; omega)) _ | refine Below.trans ?_ (Below.mono (by assumption) (by first | omega | (simp; done) | (simp; omega)))))
  clear hS hnd hI4
  have g1 : IntKind.i64.wrap ((zs.length : Int) - 1) = (zs.length : Int) - 1 := IntWalk.i64_in _ (by omega)
  have g2 : (0 : Int) ≤ (zs.length : Int) - 1 := by omega
  have g3 : ((zs.length : Int) - 1).toNat = zs.length - 1 := by omega
  have g4 : (zs.length : Int) - 1 < (zs.length : Int) := by omega
  have g5 : 0 < zs.length := by omega
  have g6 : zs.length - 1 < zs.length := by omega
  have g7 : (1 : Int) ≤ (zs.length : Int) := by omega
  go_wp2_with fail
  have hS : ∀ wx : World, Below w4.heap.size w4 wx → (wx.cell? ⟨lb, lo, none⟩ = some (.int .i64 (ig zs 0)) ∧ wx.cell? ⟨lb, lo + (zs.length - 1), none⟩ = some (.int .i64 (ig zs (zs.length - 1))) ∧ wx.cell? ⟨w.heap.size, 0, none⟩ = some (.int .i64 a) ∧ wx.cell? ⟨w.heap.size, 1, none⟩ = some (.int .i64 b)) := fun wx hbx => by
    have hbx' := hbx
    have hi := HI.out.later (show Below w.heap.size w wx by (repeat (first | exact Below.refl _ _ | assumption | refine Below.drew ?_ | refine below_drewN ?_ _ | refine Below.alloc ?_ (by first | omega | (simp; done) | (simp; omega)) _ | refine Below.setCell ?_ (by first | omega | (simp; done) | (simp; omega)) _ | refine Below.trans ?_ (Below.mono (by assumption) (by first | omega | (simp; done) | (simp; omega))))))
    exact ⟨ints_at hi h1, ints_at' hi (by omega), cell_later hbx (by (first | assumption | exact cell_alloc (by assumption) _ | (simp [go_sem, *]; done))), cell_later hbx (by (first | assumption | exact cell_alloc (by assumption) _ | (simp [go_sem, *]; done)))⟩
  have hnd : (List.map Bx.k [PB 14 15 [.int .i64 0, .int .i64 0] [.int .i64 u, .int .i64 v]]).Nodup := by simp
  refine wp_flow_s [PB 14 15 [.int .i64 0, .int .i64 0] [.int .i64 u, .int .i64 v]] [] (by kernel_rfl) (by kernel_rfl) (by kernel_rfl) ?_
  repeat (first | ((with_reducible refine Flow.pure hS StayG.nil (v := ?_) ?_ ?_ ?_ ?_); rotate_left 1; (focus kernel_rfl); (focus (intro _; rfl)); (focus (intro β wx hSw; (try dsimp only at hSw); go_simp; (try with_reducible rfl); done)); (try simp only [Act.put, List.setIfInBounds_toArray, List.set_cons_zero, List.set_cons_succ, Nat.reduceAdd])) | ((with_reducible refine Flow.call hS StayG.nil (v := ?_) ?_ ?_ ?_ ?_); rotate_left 1; (focus kernel_rfl); (focus (intro _; rfl)); (focus (intro β L wx hI hat hSw K' hK; (try dsimp only at hSw); go_simp; go_at_call 10; refine Calls.mono (xB_of (scale_any _ _ _ _ _) X4.out) ?_; rintro e w' ⟨rfl, hb'⟩; exact hK.out _ hb')); (try simp only [Act.put, List.setIfInBounds_toArray, List.set_cons_zero, List.set_cons_succ, Nat.reduceAdd])) | ((with_reducible refine Flow.make hS StayG.nil (PB 14 15 [.int .i64 0, .int .i64 0] [.int .i64 u, .int .i64 v]) 23 hnd ?_ ?_ ?_ ?_ ?_ ?_ ?_ ?_ ?_); (focus (simp; done)); (focus rfl); (focus kernel_rfl); (focus kernel_rfl); (focus (exact Or.inr ⟨_, rfl, by decide, by kernel_rfl⟩)); (focus (intro _; rfl)); (focus (intro _; rfl)); (focus (intro β wx hSw; (try dsimp only at hSw); go_simp; (try with_reducible rfl); done)); (try simp only [Act.put, List.setIfInBounds_toArray, List.set_cons_zero, List.set_cons_succ, Nat.reduceAdd])) | ((with_reducible refine Flow.store hS (fun _ h => absurd h (by simp)) (PB 14 15 [.int .i64 0, .int .i64 0] [.int .i64 u, .int .i64 v]) hnd ?_ ?_ ?_ ?_ ?_ ?_ ?_ ?_ ?_ ?_); (focus (simp; done)); (focus rfl); (focus rfl); (focus kernel_rfl); (focus kernel_rfl); (focus kernel_rfl); (focus kernel_rfl); (focus (intro _; rfl)); (focus (intro β n wx hSw hβ hc; (try dsimp only at hSw hβ); (have hc0 := hc 0 _ rfl; have hc1 := hc 1 _ rfl; obtain ⟨hc0, hf0⟩ := hc0; obtain ⟨hc1, hf1⟩ := hc1); clear hc; simp only [World.setCells]; go_simp; (try with_reducible rfl); done)); (try simp only [Act.put, Nat.reduceAdd])))
  ((with_reducible refine Flow.stop ?_); dsimp only; intro β5 w5 hI5)
  obtain ⟨ve, vlo, vhi, vq⟩ := (hI5).box (PB 14 15 [.int .i64 0, .int .i64 0] [.int .i64 u, .int .i64 v]) (by simp) rfl; have vc0 := (vq 0 _ rfl).1; have vc1 := (vq 1 _ rfl).1; have vf0 := (vq 0 _ rfl).2; have vf1 := (vq 1 _ rfl).2; clear vq; obtain ⟨n5, vn⟩ : ∃ n, n = blk (β5 14) := ⟨_, rfl⟩; dsimp only [PB] at ve vlo vhi vc0 vc1 vf0 vf1; rw [← vn] at ve vlo vhi vc0 vc1 vf0 vf1; rw [ve]; clear ve vn
  have hb5 := hI5.below
  have hs5 := hb5.size
  have l5 : w.heap.size < w5.heap.size := by omega
  have l5b : w2.heap.size < w5.heap.size := by omega
  have q50 : w5.cell? ⟨w2.heap.size, 0, none⟩ = some (.int .i64 p) := cell_later hb5 (by (first | assumption | exact cell_alloc (by assumption) _ | (simp [go_sem, *]; done))); have q51 : w5.cell? ⟨w2.heap.size, 1, none⟩ = some (.int .i64 q) := cell_later hb5 (by (first | assumption | exact cell_alloc (by assumption) _ | (simp [go_sem, *]; done)))
  have r50 : w5.cell? ⟨n4, 0, none⟩ = some (.int .i64 p) := cell_later hb5 (by (first | assumption | exact cell_alloc (by assumption) _ | (simp [go_sem, *]; done))); have r51 : w5.cell? ⟨n4, 1, none⟩ = some (.int .i64 q) := cell_later hb5 (by (first | assumption | exact cell_alloc (by assumption) _ | (simp [go_sem, *]; done)))
  have hk5 : Below w.heap.size w w5 := (by repeat (first | exact Below.refl _ _ | assumption | refine Below.drew ?_ | refine below_drewN ?_ _ | refine Below.alloc ?_ (by first | omega | (simp; done) | (simp; omega)) _ | refine Below.setCell ?_ (by first | omega | (simp; done) | (simp; omega)) _ | refine Below.trans ?_ (Below.mono (by assumption) (by first | omega | (simp; done) | (simp; omega)))))
  clear hS hnd hI5
  have t1 : decide (p ≤ u) = true := by simpa using hpu
  have t2 : decide (v ≤ q) = true := by simpa using hvq
  go_wp2_with fail
  go_ret
  exact retB rfl hk5
theorem walk (w : World) (a b : Int) (_ : (Lit.int .i64 a).wf = true) (_ : (Lit.int .i64 b).wf = true) (sa : Option Addr) (cap : Nat) (zs : List Int) (hI : Ints w sa zs) (hz : zs.length < 9223372036854775808) (hcap : zs.length ≤ cap) (hcm : cap ≤ 9223372036854775807) (raw : Int) (hr : 0 ≤ raw ∧ raw < 256) :
    Calls Try.prog 7 #[.agg #[.int .i64 a, .int .i64 b], .slice sa zs.length cap, .int .u8 raw] w (RetB (.bool true) w) := by
  by_cases h1 : 1 ≤ zs.length
  · by_cases h6 : zs.length ≤ 60
    · obtain ⟨lb, lo, rfl, _⟩ := hI.fam (by omega)
      obtain ⟨k, hk⟩ := Int.eq_ofNat_of_zero_le (Int.emod_nonneg raw (show (zs.length : Int) ≠ 0 by omega))
      have hlt := Int.emod_lt_of_pos raw (show (0 : Int) < (zs.length : Int) by omega)
      obtain ⟨⟨p, q, e⟩, x1⟩ : ∃ x, chX a b zs = x := ⟨_, rfl⟩
      by_cases he : e = 0
      · subst he
        obtain ⟨r, s, u, v, x2, x3, x4, i1, i2⟩ := ch_parts (k := k) (by omega) x1
        exact good a b lb lo cap zs raw h1 h6 hcap hcm k (by omega) hr.1 hr.2 hk p q r s u v x1 x2 x3 x4 i1 i2 w hI
      · obtain ⟨⟨r, s, f⟩, x2⟩ : ∃ x, chX a b (zs.take (k + 1)) = x := ⟨_, rfl⟩
        have h0 := ch_err (a := a) (b := b) (zs := zs) (by rw [x1]; exact he)
        rw [x1] at h0
        exact bad a b lb lo cap zs raw h1 h6 hcap hcm k (by omega) hr.1 hr.2 hk p q e r s f h0.1 h0.2 he x1 x2 w hI
    · exact no a b sa cap zs raw (.inr (by omega)) hz w
  · exact no a b sa cap zs raw (.inl (by omega)) hz w
end MigrateChains
namespace MigrateChains
set_option maxRecDepth 100000 in
theorem entry (H : Type) (enc : TypeId × Value → H) (W : World) (base : Nat) (args : Array Value) (ds : List (DataW H)) (p : List MemPlace)
    (hval : ∀ (j : Nat) t v, Try.f7.params[j]? = some t → args[j]? = some v → Value.okWide Try.prog W .any base t v)
    (hA : DataW.TrodAll enc Try.prog W 0 (fun _ => true) true Try.f7.params.toList args.toList ds p) :
    Calls Try.prog 7 args W (RetB (.bool true) W) := by
  rw [Try.params7] at hA hval
  obtain ⟨v0, vs0, d0, ds0, p0, q0, hargs, rfl, rfl, h0, r0⟩ := trodAll_cons hA
  obtain ⟨v1, vs1, d1, ds1, p1, q1, rfl, rfl, rfl, h1, r1⟩ := trodAll_cons r0
  obtain ⟨v2, vs2, d2, ds2, p2, q2, rfl, rfl, rfl, h2, r2⟩ := trodAll_cons r1
  obtain ⟨rfl, rfl, rfl⟩ := trodAll_nil r2
  obtain rfl : args = #[v0, v1, v2] := by cases args; simp_all
  obtain ⟨a0, a1, rfl, ax, ay⟩ := open_interval (hval 0 23 v0 rfl rfl) h0
  obtain ⟨la, lc, l, rfl, lI, ll, lk, lm⟩ := open_intsc_at (hval 1 24 v1 rfl rfl) h1
  obtain ⟨raw, rfl, rawo⟩ := open_u8 (hval 2 5 v2 rfl rfl) h2
  exact walk W a0 a1 ax ay la lc l lI ll lk lm raw rawo
end MigrateChains
/-! The step from the walk to the row of MigrateChains. -/
namespace MigrateChains
set_option maxRecDepth 100000 in
theorem lifted (os : Os) (started : os.Started) (H : Type) (enc : TypeId × Value → H) :
    ReturnsInHanded {} Try.checked os 7 .any (Rows.migrateChainsSpec.pre6 enc Try.prog Try.f7 Rows.migrateChainsRow.domain false) (Rows.migrateChainsSpec.post enc Try.prog Try.f7 false true false false) := by
  refine returnsInHanded_of_change (C := Try.checked) own started (by kernel_rfl) Try.func7
    (ChangeSpec.witness6 (enc := enc) (C := Try.checked) false ⟨#[], #[.agg #[.int .i64 0, .int .i64 0], .slice none 0 0, .int .u8 0], []⟩ 8 (by kernel_rfl) (by kernel_rfl) (by kernel_rfl) (by kernel_rfl)) ?_
  intro W base args ds gs before hval0 hW hcnd _
  have hval : ∀ (j : Nat) t v, Try.f7.params[j]? = some t → args[j]? = some v → Value.okWide Try.prog W .any base t v := hval0
  have hW' := hW
  obtain ⟨p, q, hA0, hV, rfl, hfz, hnd⟩ := hW
  have hA : DataW.TrodAll enc Try.prog W 0 (fun _ => true) true Try.f7.params.toList args.toList ds p := hA0
  obtain ⟨rfl, rfl⟩ := trodVars_none hV
  have hlen := trodAll_len _ _ _ _ hA
  obtain ⟨d0, d1, d2, rfl⟩ : ∃ d0 d1 d2, ds = [d0, d1, d2] := by
    rw [Try.params7] at hlen
    exact list3 hlen
  refine (entry H enc W base args [d0, d1, d2] p hval hA).mono fun e W' ⟨he, bel⟩ => ?_
  subst he
  exact ⟨_, rfl, _, _, _, [], _, [], hW', trodAll_mk1 (shut_bool Try.underlying4 _), readback laidOut _ _ _ _ (by rw [Try.params7]; exact of_decide_eq_true (by kernel_rfl)) hA bel, rfl, bel.frame _, fun h => by cases h⟩

theorem over : Rows.migrateChainsRow.holds Try.pinned (OpenSpec.ofChange Rows.migrateChainsSpec) :=
  OpenClaim.holds_of_wide 7 Try.f7 rfl rfl rfl rfl rfl rfl rfl ⟨rfl, rfl, rfl, rfl, rfl⟩ rfl rfl rfl rfl rfl (by kernel_rfl) Try.func7 (by kernel_rfl)
    (of_decide_eq_true (by kernel_rfl)) (by unfold Func.isWrapper; first | (rw [if_pos (by decide +kernel)]; kernel_rfl) | (rw [if_neg (by decide +kernel)]; exact ⟨rfl, rfl⟩))
    (fun os started H enc _ => lifted os started H enc)

/-- THE STATEMENT -/
theorem proved : Rows.MigrateChainsSaid := over
end MigrateChains
#print axioms MigrateChains.proved
end Go.Proofs.Ytknfpdccidhhkaa
