/- A map entry that is made, and then filled. -/
import Derived.Test.YtgoomcnaemfjcaaChg
import Derived.Test.YtgoomcnaemfjcaaProg
namespace Go.Proofs.Ytgoomcnaemfjcaa
open Go Go.Maps Go.WideElems Go.ChangeMaps Go.RowKit

theorem run_entry_new {P : Program} {w : World} {b : Nat} {es : Array MapEntry} {clock : Nat} {k e t : TypeId} (K : Keyed P k) (ht : P.underlying t = some (.map k e)) (hb : w.heap[b]? = some (.map es clock)) (hk : ∀ e ∈ es.toList, ∃ l, keyOf P k e.key = some l)
    {x : Value} {l : Lit} (hx : keyOf P k x = some l) (hn : ∀ y ∈ es.toList, y.key ≠ x) {z : Value} (hz : (zeroValue e).run P w = .ok z w) :
    (Instr.mapEntry t (.map (some b)) x).run P w = .ok (.tuple #[z, goInt clock]) (setBlock w b (.map (es.push ⟨x, z, clock⟩) (clock + 1))) := by
  rcases K.find w hx es.toList hk with ⟨r1, r2⟩ | ⟨j, e0, r1, r2, r3⟩
  · simp [Instr.mapEntry, run_underlying ht, MapKept.run_getObj_map hb, K.check w false hx, r1, hz, MapKept.run_setObj_map _ hb, Result.andThen, setBlock]
  · exact absurd r3 (hn e0 (List.mem_of_getElem? r2))
theorem run_entryStore_new {P : Program} {w : World} {b : Nat} {es : Array MapEntry} {clock c2 : Nat} {t : TypeId} {x z v : Value} (hb : w.heap[b]? = some (.map (es.push ⟨x, z, clock⟩) c2)) (hs : ∀ y ∈ es.toList, y.born < clock) :
    (Instr.entryStore t (.map (some b)) (goInt clock) v).run P w = .ok () (setBlock w b (.map (es.push ⟨x, v, clock⟩) c2)) := by
  have h1 : (es.push ⟨x, z, clock⟩).findIdx? (fun e => (e.born : Int) == (clock : Int)) = some es.size := by
    rw [Array.findIdx?_eq_some_iff_getElem]
    refine ⟨by simp, by simp, fun j hj => ?_⟩
    rw [Array.getElem_push_lt hj]
    have := hs es[j] (by simp)
    simp
    omega
  have h2 : (es.push ⟨x, z, clock⟩).modify es.size (fun e => { e with val := v }) = es.push ⟨x, v, clock⟩ := by
    apply Array.ext_getElem?
    intro i
    rw [Array.getElem?_modify]
    by_cases h : es.size = i
    · subst h; simp
    · rw [if_neg h, Array.getElem?_push, Array.getElem?_push]
      rw [if_neg (by omega), if_neg (by omega)]
  simp [Instr.entryStore, MapKept.run_getObj_map hb, goInt, asInt, asIntOf, h1, h2, MapKept.run_setObj_map _ hb, Result.andThen, setBlock]
end Go.Proofs.Ytgoomcnaemfjcaa
