
/- The plain law of lives for another limit. -/
import Derived.Test.YtknfpdccidhhkaaMigI
namespace Go.Proofs.Ytknfpdccidhhkaa
open Go.RowKit

structure ScOk (a b n m x y : Nat) : Prop where
  ab : a ≤ b
  b1 : b ≤ 1000000000000
  n0 : 1 ≤ n
  n1 : n ≤ 1000000000000
  m0 : 1 ≤ m
  m1 : m ≤ 1000000000000
  lo : x * n ≤ a * m
  lo' : a * m < (x + 1) * n
  hi : b * m ≤ y * n
  hi' : y = 0 ∨ (y - 1) * n < b * m
  xy : x ≤ y
  y1 : y ≤ 1000000000000

theorem mul_lt_of {a b c : Nat} (h : a * c < b * c) : a < b := Nat.lt_of_mul_lt_mul_right h
theorem ceil_spec {p n : Nat} (hn : 1 ≤ n) : ∃ y, y = p / n + rnd true (p % n) ∧ p ≤ y * n ∧ (y = 0 ∨ (y - 1) * n < p) := by
  have h1 := Nat.div_add_mod p n
  have h2 := Nat.mod_lt p hn
  rw [Nat.mul_comm] at h1
  refine ⟨_, rfl, ?_⟩
  unfold rnd
  simp only [if_true]
  by_cases h : p % n = 0
  · rw [h]
    rw [Nat.min_eq_left (by omega), Nat.add_zero]
    refine ⟨by omega, ?_⟩
    rcases Nat.eq_zero_or_pos (p / n) with h0 | h0
    · exact .inl h0
    · right
      obtain ⟨q, hq⟩ : ∃ q, p / n = q + 1 := ⟨p / n - 1, by omega⟩
      rw [hq] at h1 ⊢
      rw [Nat.add_sub_cancel]
      rw [Nat.succ_mul] at h1
      omega
  · rw [Nat.min_eq_right (by omega)]
    refine ⟨?_, .inr ?_⟩
    · rw [Nat.succ_mul]; omega
    · rw [Nat.add_sub_cancel]; omega
theorem ceil_uniq {p n y z : Nat} (hz : p ≤ z * n) (hy : y = 0 ∨ (y - 1) * n < p) : y ≤ z := by
  rcases hy with rfl | hy
  · exact Nat.zero_le _
  · have := mul_lt_of (Nat.lt_of_lt_of_le hy hz)
    omega
theorem floor_uniq {p n x z : Nat} (hz : p < (z + 1) * n) (hx : x * n ≤ p) : x ≤ z := by
  have := mul_lt_of (Nat.lt_of_le_of_lt hx hz)
  omega
theorem usdN {a b : Nat} (h : a ≤ b) (h1 : b ≤ 1000000000000) : usd (a : Int) (b : Int) = true := usd_iff.2 ⟨by omega, by omega, by omega⟩
theorem lmtN {n : Nat} (h : 1 ≤ n) (h1 : n ≤ 1000000000000) : lmt (n : Int) = true := lmt_iff.2 ⟨by omega, by omega⟩
theorem sc_exists {a b n m Y : Nat} (ab : a ≤ b) (b1 : b ≤ 1000000000000) (n0 : 1 ≤ n) (n1 : n ≤ 1000000000000) (m0 : 1 ≤ m) (m1 : m ≤ 1000000000000) (hY : b * m ≤ Y * n) (hY1 : Y ≤ 1000000000000) : ∃ x y, ScOk a b n m x y := by
  obtain ⟨y, _, h1, h2⟩ := ceil_spec (p := b * m) n0
  have hlo : a * m / n * n ≤ a * m := Nat.div_mul_le_self _ _
  have hy := ceil_uniq hY h2
  have hm := Nat.mul_le_mul_right m ab
  refine ⟨a * m / n, y, ab, b1, n0, n1, m0, m1, hlo, ?_, h1, h2, ?_, by omega⟩
  · have h1 := Nat.div_add_mod (a * m) n
    have h2 := Nat.mod_lt (a * m) n0
    rw [Nat.mul_comm] at h1
    rw [Nat.succ_mul]
    omega
  · exact floor_uniq (p := a * m) (n := n) (by rw [Nat.succ_mul]; omega) hlo
theorem sc_make {a b n m x y : Nat} (h : ScOk a b n m x y) : scX a b n m = ((x : Int), (y : Int), 0) := by
  unfold scX
  rw [usdN h.ab h.b1, lmtN h.n0 h.n1, lmtN h.m0 h.m1]
  simp only [Bool.and_self, if_true, Int.toNat_natCast]
  obtain ⟨y', e, h1, h2⟩ := ceil_spec (p := b * m) h.n0
  obtain rfl : y = y' := Nat.le_antisymm (ceil_uniq h1 h.hi') (ceil_uniq h.hi h2)
  have hx : a * m / n = x := Nat.div_eq_of_lt_le h.lo h.lo'
  have hb : ¬ 1000000000000 < b * m / n := by
    have := h.y1
    rw [e] at this
    omega
  have ha : ¬ 1000000000000 < a * m / n := by
    have := h.xy
    have := h.y1
    omega
  have hB : ovB true b m n = true := by
    unfold ovB
    rw [if_neg hb, ← e]
    exact decide_eq_true h.y1
  rw [hB]
  simp only [if_true]
  unfold ovN
  rw [if_neg hb, if_neg ha, ← e, hx]
  rfl
theorem sc_parts (a b n m : Int) : (∃ e, e ≠ 0 ∧ scX a b n m = (0, 0, e)) ∨ ∃ A B N M x y : Nat, a = A ∧ b = B ∧ n = N ∧ m = M ∧ scX a b n m = ((x : Int), (y : Int), 0) ∧ ScOk A B N M x y := by
  cases hc : (usd a b && lmt n && lmt m)
  · left
    refine ⟨1, by decide, ?_⟩
    unfold scX
    rw [hc]
    rfl
  · cases ho : ovB true b.toNat m.toNat n.toNat
    · left
      refine ⟨7, by decide, ?_⟩
      unfold scX
      rw [hc, ho]
      rfl
    · right
      simp only [Bool.and_eq_true] at hc
      obtain ⟨⟨h1, h2⟩, h3⟩ := hc
      obtain ⟨i1, i2, i3⟩ := usd_iff.1 h1
      obtain ⟨i4, i5⟩ := lmt_iff.1 h2
      obtain ⟨i6, i7⟩ := lmt_iff.1 h3
      obtain ⟨A, rfl⟩ := Int.eq_ofNat_of_zero_le i1
      obtain ⟨B, rfl⟩ := Int.eq_ofNat_of_zero_le (show 0 ≤ b by omega)
      obtain ⟨N, rfl⟩ := Int.eq_ofNat_of_zero_le (show 0 ≤ n by omega)
      obtain ⟨M, rfl⟩ := Int.eq_ofNat_of_zero_le (show 0 ≤ m by omega)
      simp only [Int.toNat_natCast] at ho
      obtain ⟨y', e, g1, g2⟩ := ceil_spec (p := B * M) (n := N) (by omega)
      have hb : y' ≤ 1000000000000 := by
        unfold ovB at ho
        split at ho
        · cases ho
        · rw [← e] at ho
          exact of_decide_eq_true ho
      obtain ⟨x, y, hs⟩ := sc_exists (a := A) (b := B) (n := N) (m := M) (Y := y') (by omega) (by omega) (by omega) (by omega) (by omega) (by omega) g1 hb
      exact ⟨A, B, N, M, x, y, rfl, rfl, rfl, rfl, sc_make hs, hs⟩

theorem ScOk.whole {n m : Nat} (n0 : 1 ≤ n) (n1 : n ≤ 1000000000000) (m0 : 1 ≤ m) (m1 : m ≤ 1000000000000) : ScOk n n n m m m := by
  have hc := Nat.mul_comm n m
  refine ⟨Nat.le_refl _, n1, n0, n1, m0, m1, by omega, by rw [Nat.succ_mul]; omega, by omega, .inr ?_, Nat.le_refl _, m1⟩
  obtain ⟨k, rfl⟩ : ∃ k, m = k + 1 := ⟨m - 1, by omega⟩
  rw [Nat.add_sub_cancel, hc, Nat.succ_mul]
  omega
theorem ScOk.none {n m : Nat} (n0 : 1 ≤ n) (n1 : n ≤ 1000000000000) (m0 : 1 ≤ m) (m1 : m ≤ 1000000000000) : ScOk 0 0 n m 0 0 := by
  refine ⟨Nat.le_refl _, by omega, n0, n1, m0, m1, by omega, by omega, by omega, .inl rfl, Nat.le_refl _, by omega⟩
theorem ScOk.same {a b n : Nat} (ab : a ≤ b) (b1 : b ≤ 1000000000000) (n0 : 1 ≤ n) (n1 : n ≤ 1000000000000) : ScOk a b n n a b := by
  refine ⟨ab, b1, n0, n1, n0, n1, Nat.le_refl _, by rw [Nat.succ_mul]; omega, Nat.le_refl _, ?_, ab, b1⟩
  rcases Nat.eq_zero_or_pos b with h | h
  · exact .inl h
  · right
    obtain ⟨k, rfl⟩ : ∃ k, b = k + 1 := ⟨b - 1, by omega⟩
    rw [Nat.add_sub_cancel, Nat.succ_mul]
    omega
theorem ScOk.full {a b n m x y : Nat} (h : ScOk a b n m x y) : (n ≤ b → m ≤ y) ∧ (a < n ↔ x < m) ∧ (0 < b ↔ 0 < y) := by
  have n0 := h.n0
  have m0 := h.m0
  have hnm := Nat.mul_comm n m
  refine ⟨fun hb => ?_, ⟨fun ha => ?_, fun hx => ?_⟩, ⟨fun hb => ?_, fun hy => ?_⟩⟩
  · have h1 := Nat.mul_le_mul_right m hb
    have h2 := Nat.le_trans h1 h.hi
    rw [hnm] at h2
    exact Nat.le_of_mul_le_mul_right h2 n0
  · have h1 := Nat.mul_lt_mul_of_pos_right ha m0
    rw [hnm] at h1
    exact mul_lt_of (Nat.lt_of_le_of_lt h.lo h1)
  · rcases Nat.lt_or_ge a n with h1 | h1
    · exact h1
    · have h2 := Nat.lt_of_le_of_lt (Nat.mul_le_mul_right m h1) h.lo'
      rw [hnm] at h2
      have := mul_lt_of h2
      omega
  · rcases Nat.eq_zero_or_pos y with h1 | h1
    · have h2 := h.hi
      rw [h1, Nat.zero_mul] at h2
      have := Nat.mul_pos hb m0
      omega
    · exact h1
  · rcases Nat.eq_zero_or_pos b with h1 | h1
    · rcases h.hi' with h2 | h2
      · omega
      · rw [h1, Nat.zero_mul] at h2
        omega
    · exact h1
theorem ScOk.inner {a b c d n m x y : Nat} (h : ScOk c d n m x y) (h1 : c ≤ a) (h2 : a ≤ b) (h3 : b ≤ d) : ∃ u v, ScOk a b n m u v ∧ x ≤ u ∧ v ≤ y := by
  have i1 := Nat.mul_le_mul_right m h3
  obtain ⟨u, v, hs⟩ := sc_exists h2 (Nat.le_trans h3 h.b1) h.n0 h.n1 h.m0 h.m1 (Nat.le_trans i1 h.hi) h.y1
  have i2 := Nat.mul_le_mul_right m h1
  refine ⟨u, v, hs, ?_, ?_⟩
  · exact floor_uniq hs.lo' (Nat.le_trans h.lo i2)
  · exact ceil_uniq (Nat.le_trans i1 h.hi) hs.hi'
theorem ScOk.more {a b n m m' x y u v : Nat} (h : ScOk a b n m x y) (k : ScOk a b n m' u v) (hm : m ≤ m') : x ≤ u ∧ y ≤ v :=
  ⟨floor_uniq k.lo' (Nat.le_trans h.lo (Nat.mul_le_mul_left a hm)), ceil_uniq (Nat.le_trans (Nat.mul_le_mul_left b hm) k.hi) h.hi'⟩
end Go.Proofs.Ytknfpdccidhhkaa
