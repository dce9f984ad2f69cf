
/- The plain law of chains. -/
import Derived.Test.YtknfpdccidhhkaaMigV
namespace Go.Proofs.Ytknfpdccidhhkaa
open Go.RowKit

theorem ig_at (l : List Int) (j : Nat) : l[j]?.getD 0 = ig l j := by simp [ig]
theorem nb_at (zs : List Int) (j : Nat) : nb zs j = (ig zs j, ig zs (j + 1)) := by unfold nb; rw [ig_at, ig_at]
theorem ig_take {l : List Int} {k j : Nat} (h : j < k) : ig (l.take k) j = ig l j := by
  rw [← ig_at, ← ig_at, List.getElem?_take_of_lt h]
theorem ig_drop (l : List Int) (k j : Nat) : ig (l.drop k) j = ig l (k + j) := by
  rw [← ig_at, ← ig_at, List.getElem?_drop]
theorem upto_congr {α : Type} {f g : Nat → α} {n : Nat} (h : ∀ j, j < n → f j = g j) : upto f n = upto g n := by
  unfold upto
  exact List.map_congr_left fun j hj => h j (List.mem_range.1 hj)
theorem upto_add {α : Type} (f : Nat → α) (k n : Nat) : upto f (k + n) = upto f k ++ upto (fun j => f (k + j)) n := by
  unfold upto
  rw [List.range_add, List.map_append, List.map_map]
  rfl
theorem fd_append (a b : Int) (l r : List (Int × Int)) : fd a b (l ++ r) = r.foldl fdS (fd a b l) := by unfold fd; rw [List.foldl_append]

theorem chain_lo {x x' Z0 Zk Z1 A : Nat} (h1 : x' * Zk ≤ x * Z1) (h2 : x * Z0 ≤ A * Zk) (hp : 0 < Zk) : x' * Z0 ≤ A * Z1 := by
  refine Nat.le_of_mul_le_mul_right ?_ hp
  have i1 := Nat.mul_le_mul_right Z0 h1
  have i2 := Nat.mul_le_mul_right Z1 h2
  rw [Nat.mul_right_comm x' Z0 Zk]
  rw [Nat.mul_right_comm x Z1 Z0] at i1
  rw [Nat.mul_right_comm A Z1 Zk]
  exact Nat.le_trans i1 i2
theorem chain_hi {y y' Z0 Zk Z1 B : Nat} (h1 : y * Z1 ≤ y' * Zk) (h2 : B * Zk ≤ y * Z0) (hp : 0 < Zk) : B * Z1 ≤ y' * Z0 := by
  refine Nat.le_of_mul_le_mul_right ?_ hp
  have i1 := Nat.mul_le_mul_right Z0 h1
  have i2 := Nat.mul_le_mul_right Z1 h2
  rw [Nat.mul_right_comm B Z1 Zk, Nat.mul_right_comm y' Z0 Zk]
  rw [Nat.mul_right_comm y Z1 Z0] at i1
  exact Nat.le_trans i2 i1

theorem all_lmt {zs : List Int} (h : zs.all lmt = true) {j : Nat} (hj : j < zs.length) : ∃ Z : Nat, ig zs j = Z ∧ 1 ≤ Z ∧ Z ≤ 1000000000000 := by
  have h1 := List.all_eq_true.1 h _ (ig_mem hj)
  obtain ⟨i1, i2⟩ := lmt_iff.1 h1
  obtain ⟨Z, hZ⟩ := Int.eq_ofNat_of_zero_le (show 0 ≤ ig zs j by omega)
  exact ⟨Z, hZ, by omega, by omega⟩
theorem chOk_iff {a b : Int} {zs : List Int} : chOk a b zs = true ↔ usd a b = true ∧ 1 ≤ zs.length ∧ zs.length ≤ 60 ∧ zs.all lmt = true := by
  unfold chOk
  simp only [Bool.and_eq_true, decide_eq_true_eq]
theorem chain_inv {a b : Int} {zs : List Int} (h : chOk a b zs = true) : ∀ k, k + 1 ≤ zs.length → (fd a b (upto (nb zs) k)).2.2 = 0 →
    ∃ A B x y Z0 Zk : Nat, a = A ∧ b = B ∧ A ≤ B ∧ B ≤ 1000000000000 ∧ ig zs 0 = Z0 ∧ ig zs k = Zk ∧ fd a b (upto (nb zs) k) = ((x : Int), (y : Int), 0) ∧ x ≤ y ∧ y ≤ 1000000000000 ∧ x * Z0 ≤ A * Zk ∧ B * Zk ≤ y * Z0
  | 0, hk, _ => by
    obtain ⟨hu, h1, _, ha⟩ := chOk_iff.1 h
    obtain ⟨i1, i2, i3⟩ := usd_iff.1 hu
    obtain ⟨A, rfl⟩ := Int.eq_ofNat_of_zero_le i1
    obtain ⟨B, rfl⟩ := Int.eq_ofNat_of_zero_le (show 0 ≤ b by omega)
    obtain ⟨Z, hZ, _, _⟩ := all_lmt ha (show 0 < zs.length by omega)
    exact ⟨A, B, A, B, Z, Z, rfl, rfl, by omega, by omega, hZ, hZ, rfl, by omega, by omega, Nat.le_refl _, Nat.le_refl _⟩
  | k + 1, hk, he => by
    have he0 : (fd a b (upto (nb zs) k)).2.2 = 0 := Classical.byContradiction fun hne => by
      have := fd_err (n := k + 1) (by omega) hne
      rw [this] at he
      exact hne he
    obtain ⟨A, B, x, y, Z0, Zk, ha, hb, hAB, hB, hZ0, hZk, hf, hxy, hy, h1, h2⟩ := chain_inv h k (by omega) he0
    obtain ⟨_, _, _, hall⟩ := chOk_iff.1 h
    obtain ⟨Z1, hZ1, _, _⟩ := all_lmt hall (show k + 1 < zs.length by omega)
    obtain ⟨Zk', hZk', hZp, _⟩ := all_lmt hall (show k < zs.length by omega)
    have e1 : fd a b (upto (nb zs) (k + 1)) = scX x y Zk Z1 := by
      rw [upto_succ, fd_snoc, hf, nb_at, hZk, hZ1]
      unfold fdS
      rw [if_pos rfl]
    rw [e1] at he
    rcases sc_parts x y Zk Z1 with ⟨e', he', h0⟩ | ⟨X, Y, N, M, x', y', e2, e3, e4, e5, h0, hs⟩
    · rw [h0] at he
      exact absurd he he'
    · obtain rfl : x = X := by omega
      obtain rfl : y = Y := by omega
      obtain rfl : Zk = N := by omega
      obtain rfl : Z1 = M := by omega
      have hp : 0 < Zk := by omega
      exact ⟨A, B, x', y', Z0, Z1, ha, hb, hAB, hB, hZ0, hZ1, by rw [e1, h0], hs.xy, hs.y1, chain_lo hs.lo h1 hp, chain_hi hs.hi h2 hp⟩
theorem ch_err {a b : Int} {zs : List Int} (h : (chX a b zs).2.2 ≠ 0) : (chX a b zs).1 = 0 ∧ (chX a b zs).2.1 = 0 := by
  unfold chX at *
  split at h
  · rename_i hc
    rw [if_pos hc]
    have key : ∀ k, (fd a b (upto (nb zs) k)).2.2 ≠ 0 → (fd a b (upto (nb zs) k)).1 = 0 ∧ (fd a b (upto (nb zs) k)).2.1 = 0 := fun k => by
      induction k with
      | zero => intro h; exact absurd rfl h
      | succ k ih =>
        rw [upto_succ, fd_snoc]
        unfold fdS
        split
        · exact fun h => scX_err h
        · rename_i hne; exact fun _ => ih hne
    exact key _ h
  · rename_i hc
    rw [if_neg hc]
    exact ⟨rfl, rfl⟩
/-- the whole, a first part, the rest of it, and one step -/
theorem ch_parts {a b p q : Int} {zs : List Int} {k : Nat} (hk : k < zs.length) (h : chX a b zs = (p, q, 0)) :
    ∃ r s u v : Int, chX a b (zs.take (k + 1)) = (r, s, 0) ∧ chX r s (zs.drop k) = (p, q, 0) ∧ scX a b (ig zs 0) (ig zs (zs.length - 1)) = (u, v, 0) ∧ p ≤ u ∧ v ≤ q := by
  have hc : chOk a b zs = true := by
    cases hc : chOk a b zs with
    | true => rfl
    | false => rw [chX_no hc] at h; simp at h
  have hx := chX_yes hc
  rw [h] at hx
  obtain ⟨hu, h1, h6, hall⟩ := chOk_iff.1 hc
  have hk0 : (fd a b (upto (nb zs) k)).2.2 = 0 := Classical.byContradiction fun hne => by
    have := fd_err (n := zs.length - 1) (by omega) hne
    rw [← hx] at this
    exact hne (by rw [← this])
  obtain ⟨A, B, x, y, Z0, Zk, ha, hb, hAB, hB, hZ0, hZk, hf, hxy, hy, g1, g2⟩ := chain_inv hc k (by omega) hk0
  obtain ⟨A', B', x', y', Z0', Zn, ha', hb', _, _, hZ0', hZn, hf', hxy', hy', g1', g2'⟩ := chain_inv hc (zs.length - 1) (by omega) (by rw [← hx])
  obtain rfl : A = A' := by omega
  obtain rfl : B = B' := by omega
  obtain rfl : Z0 = Z0' := by omega
  rw [← hx] at hf'
  simp only [Prod.mk.injEq] at hf'
  obtain ⟨e1, e2, _⟩ := hf'
  subst e1 e2
  have hok1 : chOk a b (zs.take (k + 1)) = true := chOk_iff.2 ⟨hu, by simp; omega, by simp; omega, List.all_eq_true.2 fun z hz => List.all_eq_true.1 hall z (List.mem_of_mem_take hz)⟩
  have hok2 : chOk (x : Int) (y : Int) (zs.drop k) = true := chOk_iff.2 ⟨usdN hxy hy, by simp; omega, by simp; omega, List.all_eq_true.2 fun z hz => List.all_eq_true.1 hall z (List.mem_of_mem_drop hz)⟩
  obtain ⟨Zl, hZl, z1, z2⟩ := all_lmt hall (show zs.length - 1 < zs.length by omega)
  obtain rfl : Zl = Zn := by omega
  obtain ⟨Zf, hZf, z3, z4⟩ := all_lmt hall (show 0 < zs.length by omega)
  obtain rfl : Zf = Z0 := by omega
  obtain ⟨u, v, hs⟩ := sc_exists hAB hB z3 z4 z1 z2 g2' hy'
  refine ⟨x, y, u, v, ?_, ?_, ?_, ?_, ?_⟩
  · rw [chX_yes hok1, ← hf]
    congr 1
    rw [show (zs.take (k + 1)).length - 1 = k by simp; omega]
    refine upto_congr fun j hj => ?_
    rw [nb_at, nb_at, ig_take (by omega), ig_take (by omega)]
  · rw [chX_yes hok2, hx, show zs.length - 1 = k + (zs.length - 1 - k) by omega, upto_add, fd_append, hf]
    unfold fd
    congr 1
    rw [show (zs.drop k).length - 1 = k + (zs.length - 1 - k) - k by simp; omega, Nat.add_sub_cancel_left]
    refine upto_congr fun j _ => ?_
    rw [nb_at, nb_at, ig_drop, ig_drop]
    rfl
  · rw [ha, hb, hZf, hZl]
    exact sc_make hs
  · have := floor_uniq hs.lo' g1'
    omega
  · have := ceil_uniq g2' hs.hi'
    omega
end Go.Proofs.Ytknfpdccidhhkaa
