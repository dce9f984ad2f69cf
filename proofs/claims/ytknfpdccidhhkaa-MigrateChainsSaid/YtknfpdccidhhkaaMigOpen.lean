/- Intervals, numbers and lists of numbers that came in, opened. -/
import Derived.Test.YtknfpdccidhhkaaLift
import Derived.Test.YtknfpdccidhhkaaData
import Derived.Deep.Slices
import Derived.ChangeSame
namespace Go.Proofs.Ytknfpdccidhhkaa
open Go.ChangeShapes Go.WideShapes Go.ChangeAt Go.RowKit Go.Joins Go.Deep

theorem cells_at {w : World} {a : Addr} {n : Nat} {f : Nat → Value} (hn : 0 < n) (h : ∀ i, i < n → w.cell? (a.add i) = some (f i)) : ∃ b off, a = ⟨b, off, none⟩ ∧ ∀ i, i < n → w.cell? ⟨b, off + i, none⟩ = some (f i) := by
  obtain ⟨b, off, spot⟩ := a
  have h0 := h 0 hn
  cases spot with
  | none =>
    refine ⟨b, off, rfl, fun i hi => ?_⟩
    have := h i hi
    unfold Addr.add at this
    by_cases e : i = 0
    · subst e; simpa using this
    · rw [if_neg e] at this; exact this
  | some s =>
    unfold Addr.add at h0
    rw [if_pos rfl] at h0
    unfold World.cell? at h0
    split at h0 <;> simp at h0

section
variable {H : Type} {enc : TypeId × Value → H} {w : World} {base b0 : Nat} {sp : Nat → Bool} {hd : Bool} {r : Reach} {v : Value} {d : DataW H} {p : List MemPlace}
/-- an interval that came in, opened -/
theorem open_interval (hv : Value.okWide Try.prog w r b0 23 v) (h : DataW.Trod enc Try.prog w base sp hd 23 v d p) :
    ∃ a b : Int, v = .agg #[.int .i64 a, .int .i64 b] ∧ (Lit.int .i64 a).wf = true ∧ (Lit.int .i64 b).wf = true := by
  obtain ⟨c0, c1, y0, y1, m, rfl, rfl, rfl, hy0, hy1⟩ := open_agg2 Try.underlying23 (by kernel_rfl) (by kernel_rfl) hv h
  obtain ⟨a, e0, _, wa⟩ := DataW.trod_int Try.underlying3 hy0
  obtain ⟨b, e1, _, wb⟩ := DataW.trod_int Try.underlying3 hy1
  simp at e0 e1
  subst e0 e1
  exact ⟨a, b, rfl, wa, wb⟩
theorem wf_i64 {n : Int} (hw : (Lit.int .i64 n).wf = true) : -9223372036854775808 ≤ n ∧ n < 9223372036854775808 := by
  have h1 := Bool.and_eq_true_iff.1 hw
  have h2 : -9223372036854775808 ≤ n := of_decide_eq_true h1.1
  have h3 : n ≤ 9223372036854775807 := of_decide_eq_true h1.2
  exact ⟨h2, by omega⟩
theorem open_i64 (hv : Value.okWide Try.prog w r b0 3 v) (h : DataW.Trod enc Try.prog w 0 (fun _ => true) hd 3 v d p) :
    ∃ n : Int, v = .int .i64 n ∧ -9223372036854775808 ≤ n ∧ n < 9223372036854775808 := by
  obtain ⟨n, rfl, _, _, hw⟩ := open_int Try.underlying3 hv h
  exact ⟨n, rfl, wf_i64 hw⟩
theorem open_u8 (hv : Value.okWide Try.prog w r b0 5 v) (h : DataW.Trod enc Try.prog w 0 (fun _ => true) hd 5 v d p) :
    ∃ n : Int, v = .int .u8 n ∧ 0 ≤ n ∧ n < 256 := by
  obtain ⟨n, rfl, _, _, hw⟩ := open_int Try.underlying5 hv h
  have h1 := Bool.and_eq_true_iff.1 hw
  have h2 : (0 : Int) ≤ n := of_decide_eq_true h1.1
  have h3 : n ≤ 255 := of_decide_eq_true h1.2
  exact ⟨n, rfl, h2, by omega⟩
theorem read_ints {fuel : Nat} {cs : List Value} {x : DataW H × List MemPlace} (h : DataW.trod enc Try.prog w 0 (fun _ => true) hd fuel 24 cs = some x) :
    ∃ (a : Option Addr) (cap : Nat) (l : List Int), cs = [.slice a l.length cap] ∧ Ints w a l ∧ l.length < 9223372036854775808 := by
  rcases open_ints Try.underlying24 Try.underlying3 (by kernel_rfl) h with ⟨rfl, _⟩ | ⟨a, len, cap, zs, rfl, _, hl, hm, hz, _, hc, _⟩
  · exact ⟨none, 0, [], rfl, Ints.nil _ _, by simp⟩
  · simp at hz
    unfold maxLen at hm
    refine ⟨some a, cap, zs.take len, by simp; omega, fun j hj => ?_, by simp; omega⟩
    simp at hj
    obtain ⟨b, off, rfl, hc'⟩ := cells_at (n := zs.length) (by omega) hc
    refine ⟨b, off, rfl, ?_⟩
    rw [hc' j (by omega)]
    have h1 : j < len := by omega
    simp [ig, List.getD, h1]
theorem open_ints_at (hv : Value.okWide Try.prog w r b0 24 v) (h : DataW.Trod enc Try.prog w 0 (fun _ => true) hd 24 v d p) :
    ∃ (a : Option Addr) (cap : Nat) (l : List Int), v = .slice a l.length cap ∧ Ints w a l ∧ l.length < 9223372036854775808 := by
  obtain ⟨a, len, cap, rfl⟩ := okWide_slice Try.underlying24 hv
  obtain ⟨fuel, hf⟩ := h
  obtain ⟨a', cap', l, hcs, hT, h1⟩ := read_ints hf
  simp [Value.cells] at hcs
  obtain ⟨rfl, rfl, rfl⟩ := hcs
  exact ⟨a, cap, l, rfl, hT, h1⟩
theorem open_intsc_at (hv : Value.okWide Try.prog w r b0 24 v) (h : DataW.Trod enc Try.prog w 0 (fun _ => true) hd 24 v d p) :
    ∃ (a : Option Addr) (cap : Nat) (l : List Int), v = .slice a l.length cap ∧ Ints w a l ∧ l.length < 9223372036854775808 ∧ l.length ≤ cap ∧ cap ≤ 9223372036854775807 := by
  obtain ⟨a, cap, l, rfl, hI, hl⟩ := open_ints_at hv h
  refine ⟨a, cap, l, rfl, hI, hl, ?_⟩
  obtain ⟨fuel, hf⟩ := h
  rcases open_ints Try.underlying24 Try.underlying3 (by kernel_rfl) hf with ⟨hc, _⟩ | ⟨_, _, _, _, hc, _, hl', hm, _⟩
  · simp [Value.cells] at hc
    simp [hc]
  · simp [Value.cells] at hc
    unfold maxLen at hm
    omega
end
end Go.Proofs.Ytknfpdccidhhkaa
