
/- Keys of the map of ends. -/
import Derived.Test.YtoblmecgnpoogaaShpR
namespace Go.Proofs.Ytoblmecgnpoogaa
open Go Go.Maps Go.WideElems Go.ChangeMaps Go.RowKit

theorem key_int (y : Int) (h : 0 ≤ y ∧ y ≤ 1000000) : keyOf Try.prog 3 (.int .i64 y) = some (.int .i64 y) :=
  keyOf_int_mk Try.underlying3 (by
    have h1 : IntKind.i64.min = -9223372036854775808 := by kernel_rfl
    have h2 : IntKind.i64.max = 9223372036854775807 := by kernel_rfl
    simp [Lit.wf]
    omega)
theorem Fix.chgM {w w' : World} {B : Nat} {k : Blk} {sa : Option Addr} {q sc : Nat} {bs : Int} {st : List Int} {be dn : List Bool} {x : Ld} (h : Fix w B k sa q sc bs st be dn x) (hc : Chg (fun j => j = k.M) w w') : Fix w' B k sa q sc bs st be dn x := by
  obtain ⟨⟨_, _, _, _, a, _⟩, ⟨_, _, _, b, _⟩, ⟨_, _, c, _⟩, ⟨_, d, _⟩, ⟨e, _⟩, f⟩ := h.ne
  exact ⟨h.nd, h.lo, fun b hb => Nat.lt_of_lt_of_le (h.lt b hb) hc.size, hc.cell h.c30 a, hc.cell h.c31 a, h.stO.offP rfl hc b, h.beO.offP hc c, h.dnO.offP hc d, h.pd.chg hc e (h.lt _ (by simp [Blk.l])), h.y.chg hc (fun e' => f e'.symm) (h.lt _ (by simp [Blk.l]))⟩
theorem Top.head {l : List Tk} {s : Sh} {st : List Int} {be dn : List Bool} {h' : Int} {r : List Int} (hv : VT l) (h : Top l s st be dn (h' :: r)) : 0 ≤ h' ∧ h' ≤ 40000 := by
  rcases h with ⟨hour, h⟩ | ⟨_, _, _, _, _, e⟩
  · have := h.gt h' (List.mem_cons_self ..)
    have := h.ge
    have := h.bd h' (List.mem_cons_self ..)
    have := cntB_le l be
    have := hv.1
    omega
  · cases e
    omega
end Go.Proofs.Ytoblmecgnpoogaa

