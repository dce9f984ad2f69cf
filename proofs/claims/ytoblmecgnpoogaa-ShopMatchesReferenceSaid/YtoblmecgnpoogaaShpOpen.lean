/- Shops, numbers and small numbers that came in, opened. -/
import Derived.Test.YtoblmecgnpoogaaTaskT
import Derived.Test.YtoblmecgnpoogaaShpC
namespace Go.Proofs.Ytoblmecgnpoogaa
open Go.ChangeShapes Go.WideShapes Go.ChangeAt Go.RowKit Go.Joins Go.Deep

section
variable {H : Type} {enc : TypeId × Value → H} {w : World} {held : Bool}
theorem open_ints_at {b0 : Nat} {r : Reach} {v : Value} {d : DataW H} {p : List MemPlace} (hv : Value.okWide Try.prog w r b0 23 v) (h : DataW.Trod enc Try.prog w 0 (fun _ => true) held 23 v d p) :
    ∃ (a : Option Addr) (cap : Nat) (l : List Int), v = .slice a l.length cap ∧ Ints w a l ∧ l.length < 9223372036854775808 := by
  obtain ⟨a, len, cap, rfl⟩ := okWide_slice Try.underlying23 hv
  obtain ⟨fuel, hf⟩ := h
  obtain ⟨a', cap', l, hcs, hT, h1⟩ := read_ints hf
  simp [Value.cells] at hcs
  obtain ⟨rfl, rfl, rfl⟩ := hcs
  exact ⟨a, cap, l, rfl, hT, h1⟩
theorem open_intsc_at {b0 : Nat} {r : Reach} {v : Value} {d : DataW H} {p : List MemPlace} (hv : Value.okWide Try.prog w r b0 23 v) (h : DataW.Trod enc Try.prog w 0 (fun _ => true) held 23 v d p) :
    ∃ (a : Option Addr) (cap : Nat) (l : List Int), v = .slice a l.length cap ∧ Ints w a l ∧ l.length < 9223372036854775808 ∧ l.length ≤ cap ∧ cap ≤ 9223372036854775807 := by
  obtain ⟨a, cap, l, rfl, hI, hl⟩ := open_ints_at hv h
  refine ⟨a, cap, l, rfl, hI, hl, ?_⟩
  obtain ⟨fuel, hf⟩ := h
  rcases open_ints Try.underlying23 Try.underlying3 (by kernel_rfl) hf with ⟨hc, _⟩ | ⟨_, _, _, _, hc, _, hl', hm, _⟩
  · simp [Value.cells] at hc
    simp [hc]
  · simp [Value.cells] at hc
    unfold maxLen at hm
    omega
theorem open_tasksc {b0 : Nat} {r : Reach} {v : Value} {d : DataW H} {p : List MemPlace} (hv : Value.okWide Try.prog w r b0 22 v) (h : DataW.Trod enc Try.prog w 0 (fun _ => true) held 22 v d p) :
    ∃ (a : Option Addr) (cap : Nat) (l : List Tk), v = .slice a l.length cap ∧ Tasks w a l ∧ l.length < 9223372036854775808 ∧ (∀ i, i < l.length → (tg l i).after.length < 9223372036854775808) ∧ l.length ≤ cap ∧ cap ≤ 9223372036854775807 := by
  obtain ⟨a, cap, l, rfl, hT, hl, hs⟩ := open_tasks hv h
  refine ⟨a, cap, l, rfl, hT, hl, hs, ?_⟩
  obtain ⟨fuel, hf⟩ := h
  rcases open_slice_fields Try.underlying22 Try.underlying38 (by kernel_rfl) (by kernel_rfl) hf with ⟨hc, _⟩ | ⟨_, _, _, _, _, _, hc, _, hl', hm, _⟩
  · simp [Value.cells] at hc
    simp [hc]
  · simp [Value.cells] at hc
    unfold maxLen at hm
    omega
theorem open_shop {b0 : Nat} {r : Reach} {v : Value} {d : DataW H} {p : List MemPlace} (hv : Value.okWide Try.prog w r b0 25 v) (h : DataW.Trod enc Try.prog w 0 (fun _ => true) held 25 v d p) :
    ∃ (s : Sh) (sa : Option Addr) (sc : Nat), v = shV s sa sc ∧ Ints w sa s.staff ∧ s.staff.length < 9223372036854775808 := by
  obtain ⟨v0, v1, y0, y1, n, rfl, _, _, h0, h1⟩ := open_agg2 Try.underlying25 (by kernel_rfl) (by kernel_rfl) hv h
  obtain ⟨sa, sc, l, e0, hI, hl⟩ := read_ints h0
  obtain ⟨z, e1, _, wz⟩ := DataW.trod_int Try.underlying3 h1
  simp at e0 e1
  subst e0 e1
  exact ⟨⟨l, z⟩, sa, sc, rfl, hI, hl⟩
theorem open_u8 {b0 : Nat} {r : Reach} {v : Value} {d : DataW H} {p : List MemPlace} (hv : Value.okWide Try.prog w r b0 5 v) (h : DataW.Trod enc Try.prog w 0 (fun _ => true) held 5 v d p) :
    ∃ n : Int, v = .int .u8 n ∧ 0 ≤ n ∧ n < 256 := by
  obtain ⟨n, rfl, _, _, hw⟩ := open_int Try.underlying5 hv h
  have h1 := Bool.and_eq_true_iff.1 hw
  have h2 : 0 ≤ n := of_decide_eq_true h1.1
  have h3 : n ≤ 255 := of_decide_eq_true h1.2
  exact ⟨n, rfl, h2, by omega⟩
theorem open_u16 {b0 : Nat} {r : Reach} {v : Value} {d : DataW H} {p : List MemPlace} (hv : Value.okWide Try.prog w r b0 36 v) (h : DataW.Trod enc Try.prog w 0 (fun _ => true) held 36 v d p) :
    ∃ n : Int, v = .int .u16 n ∧ 0 ≤ n ∧ n < 65536 := by
  obtain ⟨n, rfl, _, _, hw⟩ := open_int Try.underlying36 hv h
  have h1 := Bool.and_eq_true_iff.1 hw
  have h2 : 0 ≤ n := of_decide_eq_true h1.1
  have h3 : n ≤ 65535 := of_decide_eq_true h1.2
  exact ⟨n, rfl, h2, by omega⟩
end
end Go.Proofs.Ytoblmecgnpoogaa
