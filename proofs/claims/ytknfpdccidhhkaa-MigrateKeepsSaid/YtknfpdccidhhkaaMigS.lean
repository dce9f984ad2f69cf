
/- Contracts: the reference's division. -/
import Derived.Test.YtknfpdccidhhkaaMigR
import Derived.Laws.BitsLemmas
namespace Go.Proofs.Ytknfpdccidhhkaa
open Go.RowKit
theorem and_one (n : Int) : bits .and .i64 n 1 = n % 2 := by
  have h1 : (BitVec.ofInt 64 1).toNat = 2 ^ 1 - 1 := by decide
  have key : (BitVec.ofInt 64 n &&& BitVec.ofInt 64 1).toNat = (n % ((2 ^ 64 : Nat) : Int)).toNat % 2 ^ 1 := by
    rw [BitVec.toNat_and, BitVec.toNat_ofInt, h1, Nat.and_two_pow_sub_one_eq_mod]
  show IntKind.i64.wrap ((BitVec.ofInt 64 n &&& BitVec.ofInt 64 1).toNat : Nat) = n % 2
  rw [key, IntKind.wrap_i64]
  omega
theorem bits_at (a i : Nat) : ∃ A A' bit : Nat, a / 2 ^ i = A ∧ a / 2 ^ (i + 2 - 1) = A' ∧ A = 2 * A' + bit ∧ (bit = 0 ∨ bit = 1) ∧ bits .and .i64 (A : Int) 1 = (bit : Int) := by
  refine ⟨a / 2 ^ i, a / 2 ^ (i + 2 - 1), a / 2 ^ i % 2, rfl, rfl, ?_, ?_, ?_⟩
  · have : a / 2 ^ (i + 2 - 1) = a / 2 ^ i / 2 := by rw [show i + 2 - 1 = i + 1 by omega, Nat.pow_succ, Nat.div_div_eq_div_mul]
    rw [this]
    generalize a / 2 ^ i = z
    omega
  · generalize a / 2 ^ i = z
    omega
  · generalize a / 2 ^ i = z
    rw [and_one]
    omega
theorem two_plus (q x : Nat) (hq : q ≤ 4000000000000) (hx : x ≤ 3000000000000) : wrap64 (2 * (q : Int) + (x : Int)) = ((2 * q + x : Nat) : Int) := by
  unfold wrap64
  omega
theorem min_big (z : Nat) : ∃ zz : Nat, zz = min z 4000000000000 ∧ min (z : Int) 4000000000000 = (zz : Int) := by
  refine ⟨_, rfl, ?_⟩
  rcases Nat.le_total z 4000000000000 with h | h
  · rw [Nat.min_eq_left h, Int.min_eq_left (by omega)]
  · rw [Nat.min_eq_right h, Int.min_eq_right (by omega)]
    rfl
/-- the quotient, or a great number -/
def bq (x c : Nat) : Nat := min (x / c) 4000000000000
theorem bit_step (A b c bit : Nat) (hc : 0 < c) : bq ((2 * A + bit) * b) c = min (2 * bq (A * b) c + (2 * (A * b % c) + bit * b) / c) 4000000000000 ∧ (2 * A + bit) * b % c = (2 * (A * b % c) + bit * b) % c := by
  have e : (2 * A + bit) * b = c * (2 * (A * b / c)) + (2 * (A * b % c) + bit * b) := by
    have h := Nat.div_add_mod (A * b) c
    have h2 : c * (2 * (A * b / c)) = 2 * (c * (A * b / c)) := by rw [Nat.mul_left_comm]
    rw [Nat.add_mul, Nat.mul_assoc, h2]
    omega
  rw [e]
  refine ⟨?_, Nat.mul_add_mod _ _ _⟩
  unfold bq
  rw [Nat.mul_add_div hc]
  generalize (2 * (A * b % c) + bit * b) / c = z at *
  generalize A * b / c = y at *
  omega
set_option maxRecDepth 100000 in
set_option maxHeartbeats 4000000 in
theorem rdivide_any (a b c : Nat) (ha : a ≤ 1000000000000) (hb : b ≤ 1000000000000) (hc : c ≤ 1000000000000) (hc0 : 0 < c) (w : World) :
    Calls Try.prog 25 #[.int .i64 (a : Int), .int .i64 (b : Int), .int .i64 (c : Int)] w (RetB (.tuple #[.int .i64 (bq (a * b) c : Int), .bool (decide (0 < a * b % c))]) w) := by
  have hz1 : ¬ (c : Int) = 0 := by omega
  have hz2 : ((c : Int) == 0) = false := by rw [beq_eq_false_iff_ne]; omega
  go_enter Try.func25, Try.ntmps25
  go_wp2_with fail
  go_loopg [8, 9, 10] 42 (fun k v8 v9 v10 wr => ∃ q r : Nat, k ≤ 42 ∧ 1 ≤ k ∧ v8 = .int .i64 (q : Int) ∧ v9 = .int .i64 (r : Int) ∧ v10 = .int .i64 ((k : Int) - 2) ∧ w = wr ∧ q = bq (a / 2 ^ (k - 1) * b) c ∧ r = a / 2 ^ (k - 1) * b % c)
  case atStart =>
    have e : a / 2 ^ 41 = 0 := Nat.div_eq_of_lt (by omega)
    exact ⟨0, 0, by omega, by omega, rfl, rfl, rfl, rfl, by rw [e]; simp [bq], by rw [e]; simp⟩
  case round =>
    obtain ⟨q, r, hk1, hk2, rfl, rfl, rfl, rfl, hq, hr⟩ := hrel
    have hrc : r < c := by rw [hr]; exact Nat.mod_lt _ hc0
    have hqb : q ≤ 4000000000000 := by rw [hq]; unfold bq; omega
    by_cases hk : 2 ≤ gk
    · obtain ⟨i, rfl⟩ : ∃ i, gk = i + 2 := ⟨gk - 2, by omega⟩
      have hi : ((i + 2 : Nat) : Int) - 2 = (i : Int) := by omega
      rw [hi]
      obtain ⟨A, A', bit, hA, hA', hA2, hb01, f2⟩ := bits_at a i
      rw [hA'] at hq hr
      have f1 : (a : Int) / 2 ^ i = (A : Int) := divS _ _ _ hA
      have HA := Lib.hid hA
      clear hA hA'
      obtain ⟨s1, s2⟩ := bit_step A' b c bit hc0
      rw [← hA2, ← hq, ← hr] at s1
      rw [← hA2, ← hr] at s2
      obtain ⟨n, hn⟩ : ∃ n, n = 2 * r + bit * b := ⟨_, rfl⟩
      rw [← hn] at s1 s2
      obtain ⟨x, hx⟩ : ∃ x, x = n / c := ⟨_, rfl⟩
      obtain ⟨y, hy⟩ : ∃ y, y = n % c := ⟨_, rfl⟩
      have hyc : y < c := by rw [hy]; exact Nat.mod_lt _ hc0
      have hxn : x ≤ n := by rw [hx]; exact Nat.div_le_self _ _
      have g1 : (n : Int) / (c : Int) = (x : Int) := by rw [hx]; rfl
      have g2 : (n : Int) % (c : Int) = (y : Int) := by rw [hy]; rfl
      rw [← hx] at s1
      rw [← hy] at s2
      have S1 := Lib.hid s1
      have S2 := Lib.hid s2
      clear s1 s2 hx hy hA2 hq hr
      have hi40 : i ≤ 40 := by omega
      rcases hb01 with rfl | rfl
      · rw [Nat.zero_mul, Nat.add_zero] at hn
        have hn1 : (2 : Int) * (r : Int) = (n : Int) := by omega
        have hxb : x ≤ 3000000000000 := by omega
        have hw := two_plus q x hqb hxb
        obtain ⟨z, hz⟩ : ∃ z, z = 2 * q + x := ⟨_, rfl⟩
        obtain ⟨zz, hzz, hmin⟩ := min_big z
        rw [← hz] at hw
        have hzi : 2 * (q : Int) + (x : Int) = (z : Int) := by omega
        have HMI := Lib.hid (show min (2 * (q : Int) + (x : Int)) 4000000000000 = (zz : Int) by rw [hzi]; exact hmin)
        have S3 := Lib.hid (show bq (A * b) c = zz by rw [S1.out, hzz, hz])
        have G2 := Lib.hid g2
        have HAI := Lib.hid (show a / 2 ^ (i + 2 - 1 - 1) = A by rw [show i + 2 - 1 - 1 = i by omega]; exact HA.out)
        clear hn hz hzz hzi
        go_wp2_with fail
        go_roundg (i + 2 - 1)
        case measure => omega
        case rel => exact ⟨zz, y, by omega, by omega, by first | rw [HMI.out] | rfl, by first | rw [G2.out] | rfl, by go_num, rfl, by rw [HAI.out]; exact S3.out.symm, by rw [HAI.out]; exact S2.out.symm⟩
      · rw [Nat.one_mul] at hn
        have hn1 : (2 : Int) * (r : Int) + (b : Int) = (n : Int) := by omega
        have hxb : x ≤ 3000000000000 := by omega
        have hw := two_plus q x hqb hxb
        obtain ⟨z, hz⟩ : ∃ z, z = 2 * q + x := ⟨_, rfl⟩
        obtain ⟨zz, hzz, hmin⟩ := min_big z
        rw [← hz] at hw
        have hzi : 2 * (q : Int) + (x : Int) = (z : Int) := by omega
        have HMI := Lib.hid (show min (2 * (q : Int) + (x : Int)) 4000000000000 = (zz : Int) by rw [hzi]; exact hmin)
        have S3 := Lib.hid (show bq (A * b) c = zz by rw [S1.out, hzz, hz])
        have G2 := Lib.hid g2
        have HAI := Lib.hid (show a / 2 ^ (i + 2 - 1 - 1) = A by rw [show i + 2 - 1 - 1 = i by omega]; exact HA.out)
        clear hn hz hzz hzi
        go_wp2_with fail
        go_roundg (i + 2 - 1)
        case measure => omega
        case rel => exact ⟨zz, y, by omega, by omega, by first | rw [HMI.out] | rfl, by first | rw [G2.out] | rfl, by go_num, rfl, by rw [HAI.out]; exact S3.out.symm, by rw [HAI.out]; exact S2.out.symm⟩
    · obtain rfl : gk = 1 := by omega
      have e0 : a / 2 ^ (1 - 1) = a := by simp
      rw [e0] at hq hr
      have HQ := Lib.hid hq
      have HR := Lib.hid hr
      have hrd : decide ((0 : Int) < (r : Int)) = decide (0 < a * b % c) := by rw [← hr]; simp
      have HRD := Lib.hid hrd
      clear hq hr hrd
      go_wp2_with fail
      go_ret2
      exact ⟨by rw [← HQ.out, ← HRD.out]; first | rfl | (simp; done), (by repeat (first | exact Below.refl _ _ | assumption | refine Below.drew ?_ | refine below_drewN ?_ _ | refine Below.alloc ?_ (by first | omega | (simp; done) | (simp; omega)) _ | refine Below.setCell ?_ (by first | omega | (simp; done) | (simp; omega)) _ | refine Below.trans ?_ (Below.mono (by assumption) (by first | omega | (simp; done) | (simp; omega)))))⟩
end Go.Proofs.Ytknfpdccidhhkaa
