/- Plain facts on saturated sums and products of the elements of intervals; no program in sight. -/
import Derived.Test.YtegpdggadjjmkaaIntE
namespace Go.Proofs.Ytegpdggadjjmkaa
open Go.RowKit

theorem sat_mono {x y : Int} (h : x ≤ y) : sat x ≤ sat y := by unfold sat; omega
theorem mn4_sat (a b c d : Int) : mn4 (sat a) (sat b) (sat c) (sat d) = sat (mn4 a b c d) := by unfold mn4 sat; omega
theorem mx4_sat (a b c d : Int) : mx4 (sat a) (sat b) (sat c) (sat d) = sat (mx4 a b c d) := by unfold mx4 sat; omega

theorem corner1 {p q x : Int} (y : Int) (h : p ≤ x) (k : x ≤ q) : min (p * y) (q * y) ≤ x * y ∧ x * y ≤ max (p * y) (q * y) := by
  rcases Int.le_total 0 y with hy | hy
  · have h1 := Int.mul_le_mul_of_nonneg_right h hy
    have h2 := Int.mul_le_mul_of_nonneg_right k hy
    omega
  · have h1 := Int.mul_le_mul_of_nonpos_right h hy
    have h2 := Int.mul_le_mul_of_nonpos_right k hy
    omega
theorem corner {p q r s x y : Int} (h1 : p ≤ x) (h2 : x ≤ q) (h3 : r ≤ y) (h4 : y ≤ s) :
    mn4 (p * r) (p * s) (q * r) (q * s) ≤ x * y ∧ x * y ≤ mx4 (p * r) (p * s) (q * r) (q * s) := by
  have a := corner1 y h1 h2
  have b := corner1 p h3 h4
  have c := corner1 q h3 h4
  rw [Int.mul_comm r p, Int.mul_comm s p, Int.mul_comm y p] at b
  rw [Int.mul_comm r q, Int.mul_comm s q, Int.mul_comm y q] at c
  unfold mn4 mx4
  omega

def mulL (a b c d : Int) : Int := mn4 (sat (a * c)) (sat (a * d)) (sat (b * c)) (sat (b * d))
def mulH (a b c d : Int) : Int := mx4 (sat (a * c)) (sat (a * d)) (sat (b * c)) (sat (b * d))
theorem mul_in {p q r s x y : Int} (h1 : p ≤ x) (h2 : x ≤ q) (h3 : r ≤ y) (h4 : y ≤ s) : mulL p q r s ≤ sat (x * y) ∧ sat (x * y) ≤ mulH p q r s := by
  have h := corner h1 h2 h3 h4
  unfold mulL mulH
  rw [mn4_sat, mx4_sat]
  exact ⟨sat_mono h.1, sat_mono h.2⟩
theorem mul_part {p q a b r s : Int} (h1 : p ≤ a) (h : a ≤ b) (h2 : b ≤ q) (h3 : r ≤ s) : mulL p q r s ≤ mulL a b r s ∧ mulH a b r s ≤ mulH p q r s := by
  have k1 := mul_in (p := p) (q := q) (r := r) (s := s) (x := a) (y := r) h1 (by omega) (by omega) (by omega)
  have k2 := mul_in (p := p) (q := q) (r := r) (s := s) (x := a) (y := s) h1 (by omega) (by omega) (by omega)
  have k3 := mul_in (p := p) (q := q) (r := r) (s := s) (x := b) (y := r) (by omega) (by omega) (by omega) (by omega)
  have k4 := mul_in (p := p) (q := q) (r := r) (s := s) (x := b) (y := s) (by omega) (by omega) (by omega) (by omega)
  have e1 : mulL a b r s = mn4 (sat (a * r)) (sat (a * s)) (sat (b * r)) (sat (b * s)) := rfl
  have e2 : mulH a b r s = mx4 (sat (a * r)) (sat (a * s)) (sat (b * r)) (sat (b * s)) := rfl
  rw [e1, e2]
  unfold mn4 mx4
  omega
theorem mul_comm4 (a b c d : Int) : mulL a b c d = mulL c d a b ∧ mulH a b c d = mulH c d a b := by
  unfold mulL mulH mn4 mx4
  rw [Int.mul_comm c a, Int.mul_comm c b, Int.mul_comm d a, Int.mul_comm d b]
  omega
theorem mul_vld (a b c d : Int) : vld (mulL a b c d) (mulH a b c d) = true := by
  rw [vld_iff]
  have h1 := sat_small (a * c)
  have h2 := sat_small (a * d)
  have h3 := sat_small (b * c)
  have h4 := sat_small (b * d)
  unfold mulL mulH mn4 mx4
  omega

theorem add_yes {a b c d : Int} (h : vld a b = true) (h' : vld c d = true) (w : World) : Calls Try.prog 18 #[.agg #[.int .i64 a, .int .i64 b], .agg #[.int .i64 c, .int .i64 d]] w (RetB (.agg #[.int .i64 (sat (a + c)), .int .i64 (sat (b + d))]) w) := by
  have k := add_any a b c d w
  rw [op4_yes h h'] at k
  obtain ⟨i1, i2, i3⟩ := vld_iff.1 h
  obtain ⟨i4, i5, i6⟩ := vld_iff.1 h'
  have e1 : mn4 (sat (a + c)) (sat (a + d)) (sat (b + c)) (sat (b + d)) = sat (a + c) := by rw [mn4_sat]; congr 1; unfold mn4; omega
  have e2 : mx4 (sat (a + c)) (sat (a + d)) (sat (b + c)) (sat (b + d)) = sat (b + d) := by rw [mx4_sat]; congr 1; unfold mx4; omega
  rwa [e1, e2] at k
theorem sub_yes {a b c d : Int} (h : vld a b = true) (h' : vld c d = true) (w : World) : Calls Try.prog 19 #[.agg #[.int .i64 a, .int .i64 b], .agg #[.int .i64 c, .int .i64 d]] w (RetB (.agg #[.int .i64 (sat (a - d)), .int .i64 (sat (b - c))]) w) := by
  have k := sub_any a b c d w
  rw [op4_yes h h'] at k
  obtain ⟨i1, i2, i3⟩ := vld_iff.1 h
  obtain ⟨i4, i5, i6⟩ := vld_iff.1 h'
  have e1 : mn4 (sat (a - c)) (sat (a - d)) (sat (b - c)) (sat (b - d)) = sat (a - d) := by rw [mn4_sat]; congr 1; unfold mn4; omega
  have e2 : mx4 (sat (a - c)) (sat (a - d)) (sat (b - c)) (sat (b - d)) = sat (b - c) := by rw [mx4_sat]; congr 1; unfold mx4; omega
  rwa [e1, e2] at k
theorem mul_yes {a b c d : Int} (h : vld a b = true) (h' : vld c d = true) (w : World) : Calls Try.prog 20 #[.agg #[.int .i64 a, .int .i64 b], .agg #[.int .i64 c, .int .i64 d]] w (RetB (.agg #[.int .i64 (mulL a b c d), .int .i64 (mulH a b c d)]) w) := by
  have k := mul_any a b c d w
  rw [op4_yes h h'] at k
  exact k
theorem join_yes {a b c d : Int} (h : vld a b = true) (h' : vld c d = true) (w : World) : Calls Try.prog 21 #[.agg #[.int .i64 a, .int .i64 b], .agg #[.int .i64 c, .int .i64 d]] w (RetB (.agg #[.int .i64 (min a c), .int .i64 (max b d)]) w) := by
  have k := join_any a b c d w
  rw [show joinV a b c d = .agg #[.int .i64 (mn4 a b c d), .int .i64 (mx4 a b c d)] from by unfold joinV; rw [if_pos ⟨h, h'⟩]] at k
  obtain ⟨i1, i2, i3⟩ := vld_iff.1 h
  obtain ⟨i4, i5, i6⟩ := vld_iff.1 h'
  rwa [show mn4 a b c d = min a c from by unfold mn4; omega, show mx4 a b c d = max b d from by unfold mx4; omega] at k
theorem rmul_yes' {a b c d : Int} (h : vld a b = true) (h' : vld c d = true) (w : World) : Calls Try.prog 28 #[.agg #[.int .i64 a, .int .i64 b], .agg #[.int .i64 c, .int .i64 d]] w (RetB (.agg #[.int .i64 (mulL a b c d), .int .i64 (mulH a b c d)]) w) := rmul_yes a b c d w h h'

/-- no validity asked: 0, 0 where one is not valid -/
theorem pair_any {f : Int → Int → Int} (a b c d : Int) : ∃ l h : Int, op4 f a b c d = .agg #[.int .i64 l, .int .i64 h] := by
  unfold op4; split
  · exact ⟨_, _, rfl⟩
  · exact ⟨0, 0, rfl⟩

theorem part_at {a b c d : Int} (h : c ≤ a ∧ b ≤ d) (w : World) : Calls Try.prog 25 #[.agg #[.int .i64 a, .int .i64 b], .agg #[.int .i64 c, .int .i64 d]] w (RetB (.bool true) w) := by
  have k := part_any a b c d w
  rwa [show decide (c ≤ a ∧ b ≤ d) = true from decide_eq_true h] at k
theorem part_is {a b c d : Int} {r : Bool} (h : decide (c ≤ a ∧ b ≤ d) = r) (w : World) : Calls Try.prog 25 #[.agg #[.int .i64 a, .int .i64 b], .agg #[.int .i64 c, .int .i64 d]] w (RetB (.bool r) w) := h ▸ part_any a b c d w
theorem in_at {a b n : Int} (h : a ≤ n ∧ n ≤ b) (w : World) : Calls Try.prog 16 #[.agg #[.int .i64 a, .int .i64 b], .int .i64 n] w (RetB (.bool true) w) := by
  have k := in_any a b n w
  rwa [show decide (a ≤ n ∧ n ≤ b) = true from decide_eq_true h] at k
theorem in_is {a b n : Int} {r : Bool} (h : decide (a ≤ n ∧ n ≤ b) = r) (w : World) : Calls Try.prog 16 #[.agg #[.int .i64 a, .int .i64 b], .int .i64 n] w (RetB (.bool r) w) := h ▸ in_any a b n w
end Go.Proofs.Ytegpdggadjjmkaa
