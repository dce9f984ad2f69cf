
/- append([]int{}, l...) and append([]bool{}, l...) as an equation, a nil slice of any capacity included. -/
import Derived.Test.YtghdfoolieagfaaJdgX
namespace Go.Proofs.Ytghdfoolieagfaa
open Go.RowKit

theorem info_intZ : (Try.prog.info? 3).map (fun i => (i.zero, i.size, i.bytes)) = some (some (.int .i64 0), 1, 8) := by kernel_rfl
theorem ints_mem {w : World} {a : Addr} {l : List Int} (h : Ints w (some a) l) (j : Nat) (hj : j < l.length) : w.cell? (a.add j) = some (.int .i64 (ig l j)) := by
  obtain ⟨b, off, e, hc⟩ := h j hj
  cases e
  by_cases h0 : j = 0
  · subst h0; simpa [Addr.add] using hc
  · simpa [Addr.add, h0] using hc
theorem app_ints (w : World) (B : Nat) (v : Value) (hown : w.ownsRow B 3 1 v 0 []) (a : Option Addr) (c : Nat) (l : List Int) (hI : Ints w a l) (hl : l.length ≤ 1000000) (hB : B ≤ w.heap.size) (ty : TypeId) :
    ∃ v' w', (Builtin.append_ #[22, 22] ty #[v, .slice a l.length c]).run Try.prog w = .ok v' w' ∧ w'.ownsRow B 3 1 v' l.length (l.map (Value.int .i64)) ∧ w.grownBy w' v.ownBlock ∧ ∀ b, v'.ownBlock = some b → v.ownBlock = some b ∨ w.heap.size ≤ b := by
  obtain ⟨i0, hi, hz0, hz1, hz2⟩ := info_parts info_intZ
  cases a with
  | some a =>
    have := run_append_at (P := Try.prog) w B 22 ty 3 i0 (.int .i64 0) 1 8 Try.underlying22 hi hz0 hz1 hz2 rfl (by decide) v 0 [] hown a l.length c (l.map (Value.int .i64)) (by simp) (fun j u hu => by
      rw [List.getElem?_map] at hu
      obtain ⟨x, hx, rfl⟩ := Option.map_eq_some_iff.1 hu
      obtain ⟨hj, e⟩ := List.getElem?_eq_some_iff.1 hx
      rw [ints_mem hI j hj, ig_lt hj, e]) (fun u hu => by obtain ⟨x, _, rfl⟩ := List.mem_map.1 hu; rfl) (by unfold maxLen; omega) (by omega) hB
    simpa using this
  | none =>
    have h0 : l = [] := by
      cases l with
      | nil => rfl
      | cons x l => obtain ⟨_, _, e, _⟩ := hI 0 (by simp); cases e
    subst h0
    refine ⟨v, w, ?_, by simpa using hown, World.grownBy.refl _ _, fun b hb => .inl hb⟩
    rcases hown.2 with ⟨rfl, _⟩ | ⟨g, cap, cur, rfl, _⟩
    · simp [Builtin.append_, go_sem]
    · simp [Builtin.append_, go_sem]
end Go.Proofs.Ytghdfoolieagfaa
