/- Small words and lemmas for the walks of this seat: what a call leaves behind, and how blocks that were there read behind it. -/
import Derived.WalkKit
import Derived.WalkSpells
import Derived.WalkLawsBesides
import Derived.Lib.Hide
namespace Go.Proofs.Ytgccankekflchaa
open Go.RowKit

/-- returned v; what was there is as it was -/
def RetB (v : Value) (w : World) (e : Ending) (w' : World) : Prop := e = .returned v ∧ Below w.heap.size w w'
/-- returned v; the very world -/
def RetS (v : Value) (w : World) (e : Ending) (w' : World) : Prop := e = .returned v ∧ w = w'
theorem retS {v v' : Value} {w : World} (h : v' = v) : RetS v w (.returned v') w := ⟨by rw [h], rfl⟩
theorem retB {v v' : Value} {w w' : World} (h : v' = v) (hb : Below w.heap.size w w') : RetB v w (.returned v') w' := ⟨by rw [h], hb⟩
theorem vint {a b : Int} (h : a = b) : Value.int .i64 a = Value.int .i64 b := by rw [h]
theorem vbool {a b : Bool} (h : a = b) : Value.bool a = Value.bool b := by rw [h]
theorem vagg2 {a b c d : Int} (h : a = c) (k : b = d) : Value.agg #[.int .i64 a, .int .i64 b] = .agg #[.int .i64 c, .int .i64 d] := by rw [h, k]
theorem bcell {W w1 : World} (hb : Below W.heap.size W w1) : (∀ b o, b < W.heap.size → w1.cell? ⟨b, o, none⟩ = W.cell? ⟨b, o, none⟩) ∧ (∀ b o, b < W.heap.size → w1.frozen? ⟨b, o, none⟩ = W.frozen? ⟨b, o, none⟩) :=
  ⟨fun b o h => hb.cell (p := ⟨b, o, none⟩) h, fun b o h => hb.frozen (p := ⟨b, o, none⟩) h⟩
theorem cell_alloc {w : World} {p : Addr} {v : Value} (h : w.cell? p = some v) (o : Obj) : (w.alloc o).cell? p = some v := (World.cell?_alloc_lt _ _ _ (World.block_lt_of_cell? _ _ h)).trans h
theorem cell_later' {w wx : World} {a : Addr} {v : Value} (h : w.cell? a = some v) (hb : Below w.heap.size w wx) : wx.cell? a = some v := cell_later hb h
theorem frozen_later' {w wx : World} {b o : Nat} (hf : w.frozen? ⟨b, o, none⟩ = false) (h : b < w.heap.size) (hb : Below w.heap.size w wx) : wx.frozen? ⟨b, o, none⟩ = false :=
  (hb.frozen (p := ⟨b, o, none⟩) h).trans hf
def mn4 (a b c d : Int) : Int := min (min (min a b) c) d
def mx4 (a b c d : Int) : Int := max (max (max a b) c) d
theorem if_min (x y : Int) : (if y < x then y else x) = min x y := by omega
theorem if_max (x y : Int) : (if x < y then y else x) = max x y := by omega
@[go_sem] theorem run_min_int4 (P : Program) (w : World) (ts : Array TypeId) (t : TypeId) (k k1 k2 k3 : IntKind) (x y z u : Int) : (Builtin.min_ ts t #[.int k x, .int k1 y, .int k2 z, .int k3 u]).run P w = .ok (.int k (mn4 x y z u)) w := by
  simp [Builtin.min_, Builtin.min2, if_min, mn4]
@[go_sem] theorem run_max_int4 (P : Program) (w : World) (ts : Array TypeId) (t : TypeId) (k k1 k2 k3 : IntKind) (x y z u : Int) : (Builtin.max_ ts t #[.int k x, .int k1 y, .int k2 z, .int k3 u]).run P w = .ok (.int k (mx4 x y z u)) w := by
  simp [Builtin.max_, Builtin.max2, if_max, mx4]
end Go.Proofs.Ytgccankekflchaa

