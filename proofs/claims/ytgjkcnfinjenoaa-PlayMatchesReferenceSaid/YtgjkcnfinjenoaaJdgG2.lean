

/- Contracts of package judge: made with a budget. -/
import Derived.Test.YtgjkcnfinjenoaaJdgG
namespace Go.Proofs.Ytgjkcnfinjenoaa
open Go.RowKit

theorem shl_or2 {F k : Nat} (hF : F < 64) (hk : k < 6) (h0 : F / 2 ^ k % 2 = 0) : bits .or .i64 (F : Int) (IntKind.i64.wrap (2 ^ k)) = ((F + 2 ^ k : Nat) : Int) := by
  have e : IntKind.i64.wrap ((2 : Int) ^ k) = ((2 ^ k : Nat) : Int) := by
    have : k = 0 ∨ k = 1 ∨ k = 2 ∨ k = 3 ∨ k = 4 ∨ k = 5 := by omega
    rcases this with rfl | rfl | rfl | rfl | rfl | rfl <;> decide
  rw [e]
  exact or_bit F hF k hk h0
theorem sitC_hit {s : St} {k : Nat} (hk : k < s.failed.length) (h : bg s.failed k = false) : sitC (hit s k) = [.int .i64 s.turn, .int .i64 (s.budget - 1), .int .i64 s.starts.length, .int .i64 (ig s.starts 0), .int .i64 (ig s.starts 1), .int .i64 (ig s.starts 2), .int .i64 (ig s.starts 3), .int .i64 (ig s.starts 4), .int .i64 (ig s.starts 5), .int .i64 ((bitsU s.failed s.failed.length : Int) + 2 ^ k)] := by
  unfold sitC hit
  have e : (bitsU (s.failed.set k true) (s.failed.set k true).length : Int) = (bitsU s.failed s.failed.length : Int) + 2 ^ k := by
    rw [List.length_set, bitsU_set hk h, if_pos hk]; push_cast; rfl
  simp only [e]
theorem hitting_len (s : St) (k : Nat) : (Hitting s k).length ≤ k + 1 := by
  unfold Hitting
  rw [List.length_cons, List.length_map]
  have := List.length_filter_le (fun v => !bg s.failed v) (List.range k)
  rw [List.length_range] at this
  omega
theorem SitBox.below {w w1 : World} {n B : Nat} {t b m s0 s1 s2 s3 s4 s5 f : Int} (h : SitBox w B t b m s0 s1 s2 s3 s4 s5 f) (hb : Below n w w1) (hn : B < n) : SitBox w1 B t b m s0 s1 s2 s3 s4 s5 f :=
  ⟨(hb.cell hn).trans h.c0, (hb.cell hn).trans h.c1, (hb.cell hn).trans h.c2, (hb.cell hn).trans h.c3, (hb.cell hn).trans h.c4, (hb.cell hn).trans h.c5, (hb.cell hn).trans h.c6, (hb.cell hn).trans h.c7, (hb.cell hn).trans h.c8, (hb.cell hn).trans h.c9, fun j hj => (hb.frozen (p := ⟨B, j, none⟩) hn).trans (h.fr j hj)⟩

