

/- The judge's laws: the examples. -/
import Derived.Test.YtghdfoolieagfaaJdgQ
namespace Go.Proofs.Ytghdfoolieagfaa
open Go.RowKit

def exG (b : Int) : Gm := ⟨[1], [[0]], b⟩
def exP0 (b : Int) : Pos := ⟨0, [1], [false], b, 0, 0⟩
def exP1 (b : Int) : Pos := ⟨0, [1], [true], b - 1, -1, 1⟩
def exL (b : Int) : List Pos := if 0 < b then [exP0 b, exP1 b] else [exP0 b]
def ExR (b : Int) (w : World) (e : Ending) (w' : World) : Prop := ∃ sa da pa pc pv, e = .returned (.tuple #[.agg #[.slice sa 1 1, .slice da 1 1, .int .i64 b], .slice pa (exL b).length pc]) ∧ GmAt w' (exG b) sa da ∧ PlanAt w' pa (exL b) pv ∧ (exL b).length ≤ pc ∧ Below w.heap.size w w'
theorem ints_one {w : World} {b : Nat} {n : Int} (h : w.cell? ⟨b, 0, none⟩ = some (.int .i64 n)) : Ints w (some ⟨b, 0, none⟩) [n] := fun j hj => by
  obtain rfl : j = 0 := by simpa using hj
  exact ⟨b, 0, rfl, h⟩
theorem bools_one {w : World} {b : Nat} {n : Bool} (h : w.cell? ⟨b, 0, none⟩ = some (.bool n)) : Bools w (some ⟨b, 0, none⟩) [n] := fun j hj => by
  obtain rfl : j = 0 := by simpa using hj
  exact ⟨b, 0, rfl, h⟩
theorem rows_one {w : World} {b c : Nat} {n : Int} (h : w.cell? ⟨b, 0, none⟩ = some (.slice (some ⟨c, 0, none⟩) 1 1)) (h' : w.cell? ⟨c, 0, none⟩ = some (.int .i64 n)) : Rows2 w (some ⟨b, 0, none⟩) [[n]] := fun j hj => by
  obtain rfl : j = 0 := by simpa using hj
  exact ⟨b, 0, _, 1, rfl, h, ints_one h'⟩
theorem Chg.set1 {b : Nat} {a w : World} (h : Chg (fun k => k = b) a w) (o : Nat) (u : Value) : Chg (fun k => k = b) a (w.setCell ⟨b, o, none⟩ u) := Chg.setCell (S := fun k => k = b) (p := ⟨b, o, none⟩) h (fun _ => rfl) u
theorem OwnP.alloc {w : World} {B : Nat} {v : Value} {l : List PA} (h : OwnP w B v l) (o : Obj) : OwnP (w.alloc o) B v l := h.later ((Below.refl _ _).alloc (Nat.le_refl _) o)
theorem own_lit (w : World) (B : Nat) (x : PA) (hB : B ≤ w.heap.size) : OwnP (w.alloc (.cells (psCs x).toArray 33)) B (.slice (some ⟨w.heap.size, 0, none⟩) 1 1) [x] := by
  have := World.ownsRow_lit (base := B) (e := 33) (size := 6) w (psCs x).toArray 1 hB (by unfold maxLen; omega) rfl
  unfold OwnP
  simpa using this
theorem own_at {w : World} (x : PA) {b B : Nat} (hb : w.heap.size = b) (hB : B ≤ b) : OwnP (w.alloc (.cells (psCs x).toArray 33)) B (.slice (some ⟨b, 0, none⟩) 1 1) [x] := by
  subst hb
  exact own_lit w B x hB
set_option maxRecDepth 100000 in
set_option maxHeartbeats 4000000 in
theorem example0 (w : World) : Calls Try.prog 17 #[.int .i64 0] w (ExR 0 w) := by
  go_enter Try.func17, Try.ntmps17
  go_wp2_with fail
  obtain ⟨wy, hwy⟩ : ∃ wy, wy = ((((((w.alloc (Obj.cells #[.slice (some ⟨w.heap.size + 1, 0, none⟩) 1 1, .slice (some ⟨w.heap.size + 1 + 1 + 1, 0, none⟩) 1 1, .int .i64 0] 25)).alloc (Obj.cells #[.int .i64 1] 3)).alloc (Obj.cells #[.int .i64 0] 3)).alloc (Obj.cells #[.slice (some ⟨w.heap.size + 1 + 1, 0, none⟩) 1 1] 22)).alloc (Obj.cells #[.slice (some ⟨w.heap.size + 1, 0, none⟩) 1 1, .slice (some ⟨w.heap.size + 1 + 1 + 1, 0, none⟩) 1 1, .int .i64 0] 25)).alloc (Obj.cells #[.int .i64 1] 3)).alloc (Obj.cells #[.bool false] 4) := ⟨_, rfl⟩
  rw [← hwy]
  have hsy : wy.heap.size = w.heap.size + 1 + 1 + 1 + 1 + 1 + 1 + 1 := by rw [hwy]; simp
  have hby : Below w.heap.size w wy := by rw [hwy]; exact (by repeat (first | exact Below.refl _ _ | assumption | refine Below.drew ?_ | refine below_drewN ?_ _ | refine Below.alloc ?_ (by first | omega | (simp; done) | (simp; omega)) _ | refine Below.setCell ?_ (by first | omega | (simp; done) | (simp; omega)) _ | refine Below.trans ?_ (Below.mono (by assumption) (by first | omega | (simp; done) | (simp; omega)))))
  have c1 : wy.cell? ⟨w.heap.size + 1, 0, none⟩ = some (.int .i64 1) := by rw [hwy]; simp [go_sem]
  have c2 : wy.cell? ⟨w.heap.size + 1 + 1, 0, none⟩ = some (.int .i64 0) := by rw [hwy]; simp [go_sem]
  have c3 : wy.cell? ⟨w.heap.size + 1 + 1 + 1, 0, none⟩ = some (.slice (some ⟨w.heap.size + 1 + 1, 0, none⟩) 1 1) := by rw [hwy]; simp [go_sem]
  have c5 : wy.cell? ⟨w.heap.size + 1 + 1 + 1 + 1 + 1, 0, none⟩ = some (.int .i64 1) := by rw [hwy]; simp [go_sem]
  have c6 : wy.cell? ⟨w.heap.size + 1 + 1 + 1 + 1 + 1 + 1, 0, none⟩ = some (.bool false) := by rw [hwy]; simp [go_sem]
  have g0 : wy.cell? ⟨w.heap.size, 0, none⟩ = some (.slice (some ⟨w.heap.size + 1, 0, none⟩) 1 1) := by rw [hwy]; simp [go_sem]
  have g1 : wy.cell? ⟨w.heap.size, 1, none⟩ = some (.slice (some ⟨w.heap.size + 1 + 1 + 1, 0, none⟩) 1 1) := by rw [hwy]; simp [go_sem]
  have g2 : wy.cell? ⟨w.heap.size, 2, none⟩ = some (.int .i64 0) := by rw [hwy]; simp [go_sem]
  clear hwy
  have hGA : GmAt wy (exG 0) (some ⟨w.heap.size + 1, 0, none⟩) (some ⟨w.heap.size + 1 + 1 + 1, 0, none⟩) := ⟨ints_one c1, rows_one c3 c2⟩
  obtain ⟨x, hx⟩ : ∃ x : PA, x = (exP0 0, (some ⟨w.heap.size + 1 + 1 + 1 + 1 + 1, 0, none⟩, 1, some ⟨w.heap.size + 1 + 1 + 1 + 1 + 1 + 1, 0, none⟩, 1)) := ⟨_, rfl⟩
  have hPA : PsAll wy [x] := fun y hy => by
    obtain rfl : y = x := by simpa using hy
    rw [hx]
    exact ⟨ints_one c5, bools_one c6⟩
  have hb := (Below.refl wy.heap.size wy).alloc (Nat.le_refl _) (.cells (psCs x).toArray 33)
  obtain ⟨a, c, hv, hc, hpl⟩ := (own_lit wy 0 x (Nat.zero_le _)).plan (hPA.later hb)
  have hv2 : a = some ⟨wy.heap.size, 0, none⟩ ∧ c = 1 := by cases hv; exact ⟨rfl, rfl⟩
  obtain ⟨rfl, rfl⟩ := hv2
  have hlt : w.heap.size < wy.heap.size := by omega
  rw [hx] at hpl hb
  rw [hsy] at hpl
  refine bodyPost_ret (v := .tuple #[.agg #[.slice (some ⟨w.heap.size + 1, 0, none⟩) 1 1, .slice (some ⟨w.heap.size + 1 + 1 + 1, 0, none⟩) 1 1, .int .i64 0], .slice (some ⟨w.heap.size + 1 + 1 + 1 + 1 + 1 + 1 + 1, 0, none⟩) 1 1]) ?_ rfl ⟨_, _, _, 1, _, rfl, hGA.later hb, hpl, by decide, hby.trans (hb.mono (by omega))⟩
  simp [results, go_sem, g0, g1, g2, hlt]
set_option maxRecDepth 100000 in
set_option maxHeartbeats 4000000 in
theorem example1 (w : World) : Calls Try.prog 17 #[.int .i64 1] w (ExR 1 w) := by
  go_enter Try.func17, Try.ntmps17
  go_wp2_with (at_builtin; go_loud (refine append_poss _ rfl _ _ rfl (w.heap.size + 1) (.slice (some ⟨w.heap.size + 1 + 1 + 1 + 1 + 1 + 1 + 1, 0, none⟩) 1 1) [(exP0 1, (some ⟨w.heap.size + 1 + 1 + 1 + 1 + 1, 0, none⟩, 1, some ⟨w.heap.size + 1 + 1 + 1 + 1 + 1 + 1, 0, none⟩, 1))] [(exP1 1, (some ⟨w.heap.size + 1 + 1 + 1 + 1 + 1 + 1 + 1 + 1, 0, none⟩, 1, some ⟨w.heap.size + 1 + 1 + 1 + 1 + 1 + 1 + 1 + 1 + 1, 0, none⟩, 1))] rfl ?_ _ _ rfl ?_ (by intro h; cases h) (by simp) (by simp <;> omega) ?_; exact (((own_at (exP0 1, (some ⟨w.heap.size + 1 + 1 + 1 + 1 + 1, 0, none⟩, 1, some ⟨w.heap.size + 1 + 1 + 1 + 1 + 1 + 1, 0, none⟩, 1)) (by simp) (by omega)).alloc _).alloc _).alloc _; (intro j u hu; exact ⟨_, 0, rfl, by match j, hu with | 0, hu => (simp [exP1] at hu; subst hu; simp [go_sem]) | 1, hu => (simp [exP1] at hu; subst hu; simp [go_sem]) | 2, hu => (simp [exP1] at hu; subst hu; simp [go_sem]) | 3, hu => (simp [exP1] at hu; subst hu; simp [go_sem]) | 4, hu => (simp [exP1] at hu; subst hu; simp [go_sem]) | 5, hu => (simp [exP1] at hu; subst hu; simp [go_sem]) | n + 6, hu => simp at hu⟩); intro v2 w2 ho2 hg2 hn2; (have d40 : w2.cell? ⟨w.heap.size + 1 + 1 + 1 + 1, 0, none⟩ = some (.slice (some ⟨w.heap.size + 1, 0, none⟩) 1 1) := hg2.cell (by simp [go_sem]) (by simp [Value.ownBlock] <;> omega)); (have d41 : w2.cell? ⟨w.heap.size + 1 + 1 + 1 + 1, 1, none⟩ = some (.slice (some ⟨w.heap.size + 1 + 1 + 1, 0, none⟩) 1 1) := hg2.cell (by simp [go_sem]) (by simp [Value.ownBlock] <;> omega)); (have d42 : w2.cell? ⟨w.heap.size + 1 + 1 + 1 + 1, 2, none⟩ = some (.int .i64 1) := hg2.cell (by simp [go_sem]) (by simp [Value.ownBlock] <;> omega)); (have d00 : w2.cell? ⟨w.heap.size, 0, none⟩ = some (.slice none 0 0) := hg2.cell (by simp [go_sem]) (by simp [Value.ownBlock] <;> omega)); (have d01 : w2.cell? ⟨w.heap.size, 1, none⟩ = some (.slice none 0 0) := hg2.cell (by simp [go_sem]) (by simp [Value.ownBlock] <;> omega)); (have d02 : w2.cell? ⟨w.heap.size, 2, none⟩ = some (.int .i64 0) := hg2.cell (by simp [go_sem]) (by simp [Value.ownBlock] <;> omega)); (have f00 : w2.frozen? ⟨w.heap.size, 0, none⟩ = false := (World.frozen?_of_block (hg2.block _ (by simp <;> omega) (by simp [Value.ownBlock] <;> omega))).trans (by simp [go_sem])); (have f01 : w2.frozen? ⟨w.heap.size, 1, none⟩ = false := (World.frozen?_of_block (hg2.block _ (by simp <;> omega) (by simp [Value.ownBlock] <;> omega))).trans (by simp [go_sem])); (have f02 : w2.frozen? ⟨w.heap.size, 2, none⟩ = false := (World.frozen?_of_block (hg2.block _ (by simp <;> omega) (by simp [Value.ownBlock] <;> omega))).trans (by simp [go_sem])); (have d1 : w2.cell? ⟨w.heap.size + 1, 0, none⟩ = some (.int .i64 1) := hg2.cell (by simp [go_sem]) (by simp [Value.ownBlock] <;> omega)); (have d2 : w2.cell? ⟨w.heap.size + 1 + 1, 0, none⟩ = some (.int .i64 0) := hg2.cell (by simp [go_sem]) (by simp [Value.ownBlock] <;> omega)); (have d3 : w2.cell? ⟨w.heap.size + 1 + 1 + 1, 0, none⟩ = some (.slice (some ⟨w.heap.size + 1 + 1, 0, none⟩) 1 1) := hg2.cell (by simp [go_sem]) (by simp [Value.ownBlock] <;> omega)); (have d5 : w2.cell? ⟨w.heap.size + 1 + 1 + 1 + 1 + 1, 0, none⟩ = some (.int .i64 1) := hg2.cell (by simp [go_sem]) (by simp [Value.ownBlock] <;> omega)); (have d6 : w2.cell? ⟨w.heap.size + 1 + 1 + 1 + 1 + 1 + 1, 0, none⟩ = some (.bool false) := hg2.cell (by simp [go_sem]) (by simp [Value.ownBlock] <;> omega)); (have d8 : w2.cell? ⟨w.heap.size + 1 + 1 + 1 + 1 + 1 + 1 + 1 + 1, 0, none⟩ = some (.int .i64 1) := hg2.cell (by simp [go_sem]) (by simp [Value.ownBlock] <;> omega)); (have d9 : w2.cell? ⟨w.heap.size + 1 + 1 + 1 + 1 + 1 + 1 + 1 + 1 + 1, 0, none⟩ = some (.bool true) := hg2.cell (by simp [go_sem]) (by simp [Value.ownBlock] <;> omega)); (have hbz : Below w.heap.size w w2 := Below.grown (w := _) ((by repeat (first | exact Below.refl _ _ | assumption | refine Below.drew ?_ | refine below_drewN ?_ _ | refine Below.alloc ?_ (by first | omega | (simp; done) | (simp; omega)) _ | refine Below.setCell ?_ (by first | omega | (simp; done) | (simp; omega)) _ | refine Below.trans ?_ (Below.mono (by assumption) (by first | omega | (simp; done) | (simp; omega)))))) hg2 (by simp <;> omega) (by intro k hk; simp [Value.ownBlock] at hk; omega)); (have hsz2 := hg2.size); (have HO2 := Lib.hid ho2); (clear ho2 hn2)))
  obtain ⟨w3, hw3⟩ : ∃ w3, w3 = ((w2.setCell ⟨w.heap.size, 0, none⟩ (.slice (some ⟨w.heap.size + 1, 0, none⟩) 1 1)).setCell ⟨w.heap.size, 1, none⟩ (.slice (some ⟨w.heap.size + 1 + 1 + 1, 0, none⟩) 1 1)).setCell ⟨w.heap.size, 2, none⟩ (.int .i64 1) := ⟨_, rfl⟩
  rw [← hw3]
  have hch : Chg (fun k => k = w.heap.size) w2 w3 := by rw [hw3]; exact (((Chg.refl _ _).set1 _ _).set1 _ _).set1 _ _
  have hb3 : Below w.heap.size w w3 := hbz.trans (hch.below hbz.size fun k hk => by omega)
  have e0 : w3.cell? ⟨w.heap.size, 0, none⟩ = some (.slice (some ⟨w.heap.size + 1, 0, none⟩) 1 1) := by rw [hw3]; simp [go_sem, d00]
  have e1 : w3.cell? ⟨w.heap.size, 1, none⟩ = some (.slice (some ⟨w.heap.size + 1 + 1 + 1, 0, none⟩) 1 1) := by rw [hw3]; simp [go_sem, d01]
  have e2 : w3.cell? ⟨w.heap.size, 2, none⟩ = some (.int .i64 1) := by rw [hw3]; simp [go_sem, d02]
  have k : ∀ {b o : Nat} {v : Value}, w2.cell? ⟨b, o, none⟩ = some v → b ≠ w.heap.size → w3.cell? ⟨b, o, none⟩ = some v := fun h h' => hch.cell h h'
  have hGA : GmAt w3 (exG 1) (some ⟨w.heap.size + 1, 0, none⟩) (some ⟨w.heap.size + 1 + 1 + 1, 0, none⟩) := ⟨ints_one (k d1 (by omega)), rows_one (k d3 (by omega)) (k d2 (by omega))⟩
  have hO3 : OwnP w3 (w.heap.size + 1) v2 ([(exP0 1, (some ⟨w.heap.size + 1 + 1 + 1 + 1 + 1, 0, none⟩, 1, some ⟨w.heap.size + 1 + 1 + 1 + 1 + 1 + 1, 0, none⟩, 1))] ++ [(exP1 1, (some ⟨w.heap.size + 1 + 1 + 1 + 1 + 1 + 1 + 1 + 1, 0, none⟩, 1, some ⟨w.heap.size + 1 + 1 + 1 + 1 + 1 + 1 + 1 + 1 + 1, 0, none⟩, 1))]) := hch.owns HO2.out (fun b hb => by have := (World.ownsRow.lt HO2.out b hb).1; omega)
  have hPA : PsAll w3 ([(exP0 1, (some ⟨w.heap.size + 1 + 1 + 1 + 1 + 1, 0, none⟩, 1, some ⟨w.heap.size + 1 + 1 + 1 + 1 + 1 + 1, 0, none⟩, 1))] ++ [(exP1 1, (some ⟨w.heap.size + 1 + 1 + 1 + 1 + 1 + 1 + 1 + 1, 0, none⟩, 1, some ⟨w.heap.size + 1 + 1 + 1 + 1 + 1 + 1 + 1 + 1 + 1, 0, none⟩, 1))]) := fun y hy => by
    simp only [List.cons_append, List.nil_append, List.mem_cons, List.not_mem_nil, or_false] at hy
    rcases hy with rfl | rfl
    · exact ⟨ints_one (k d5 (by omega)), bools_one (k d6 (by omega))⟩
    · exact ⟨ints_one (k d8 (by omega)), bools_one (k d9 (by omega))⟩
  obtain ⟨a, c, rfl, hc, hpl⟩ := hO3.plan hPA
  refine bodyPost_ret (v := .tuple #[.agg #[.slice (some ⟨w.heap.size + 1, 0, none⟩) 1 1, .slice (some ⟨w.heap.size + 1 + 1 + 1, 0, none⟩) 1 1, .int .i64 1], .slice a 2 c]) ?_ rfl ⟨_, _, a, c, _, rfl, hGA, hpl, hc, hb3⟩
  simp [results, go_sem, e0, e1, e2]
end Go.Proofs.Ytghdfoolieagfaa
