/- Records: how they lie in memory. -/
import Derived.Test.YtgoomcnaemfjcaaHldC
import Derived.Test.YtgoomcnaemfjcaaHldM
namespace Go.Proofs.Ytgoomcnaemfjcaa
open Go.RowKit

noncomputable def zRec : Value := ((Try.prog.info? 54).bind (·.zero)).getD undef
noncomputable def ER : El Rec := ⟨54, 23, 36, 480, zRec, Rec.cs, Try.underlying23, by kernel_rfl, by kernel_rfl, by decide, by decide, fun r => r.hl, fun r => r.h1⟩
structure RecF (r : Rec) : Prop where
  f0 : r.cs[0]? = some (.int .i64 r.kind)
  f1 : r.cs[1]? = some (.int .i64 r.author)
  f5 : r.cs[5]? = some (.string r.target)
  f6 : r.cs[6]? = some (.string r.name)
  f8 : r.cs[8]? = some (.slice r.ma r.members.length r.mc)
  ml : r.members.length < 9223372036854775808
def RecAll (w : World) (l : List Rec) : Prop := ∀ r ∈ l, RecF r ∧ Ints w r.ma r.members
theorem RecAll.later {w w1 : World} {l : List Rec} (h : RecAll w l) (hb : Below w.heap.size w w1) : RecAll w1 l := fun r hr => ⟨(h r hr).1, (h r hr).2.later hb⟩
/-- the cells of a record that are looked at -/
structure RcC (w : World) (b o : Nat) (r : Rec) : Prop where
  c0 : w.cell? ⟨b, o, none⟩ = some (.int .i64 r.kind)
  c1 : w.cell? ⟨b, o + 1, none⟩ = some (.int .i64 r.author)
  c5 : w.cell? ⟨b, o + 5, none⟩ = some (.string r.target)
  c6 : w.cell? ⟨b, o + 6, none⟩ = some (.string r.name)
  c8 : w.cell? ⟨b, o + 8, none⟩ = some (.slice r.ma r.members.length r.mc)
theorem RcC.later {w w1 : World} {b o : Nat} {r : Rec} (h : RcC w b o r) (hb : Below w.heap.size w w1) : RcC w1 b o r := ⟨cell_later hb h.c0, cell_later hb h.c1, cell_later hb h.c5, cell_later hb h.c6, cell_later hb h.c8⟩
theorem rc_of {w : World} {b o : Nat} {r : Rec} (h : w.rangeAt b o r.cs) (k : RecF r) : RcC w b o r := ⟨h 0 _ k.f0, h 1 _ k.f1, h 5 _ k.f5, h 6 _ k.f6, h 8 _ k.f8⟩
theorem rc_cells {w : World} {b off : Nat} {l : List Rec} (h : ER.At w (some ⟨b, off, none⟩) l) (ha : RecAll w l) {k : Nat} (hk : k < l.length) : RcC w b (off + k * 36) l[k] := rc_of (h.range hk) (ha _ (List.getElem_mem hk)).1
theorem rec_size (r : Rec) : (Try.prog.info? 54).map (·.size) = some r.cs.length := by
  rw [r.hl]
  kernel_rfl
theorem str_cell {w : World} {b off : Nat} {l : List ByteArray} (h : ES.At w (some ⟨b, off, none⟩) l) {k : Nat} (hk : k < l.length) : w.cell? ⟨b, off + k, none⟩ = some (.string l[k]) := by
  have := (h.range hk) 0 _ rfl
  rw [show ES.S = 1 from rfl, Nat.mul_one] at this
  exact this
end Go.Proofs.Ytgoomcnaemfjcaa
