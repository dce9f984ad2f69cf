
/- Contracts: the law's comparison of two products. -/
import Derived.Test.YtknfpdccidhhkaaMigS
namespace Go.Proofs.Ytknfpdccidhhkaa
open Go.RowKit
def cmpV (a b c d : Nat) : Int := if a * b < c * d then -1 else if c * d < a * b then 1 else 0
theorem split_mul (a b : Nat) : ∃ A1 A0 p1 p0 : Nat, (a : Int) / 2097152 = (A1 : Int) ∧ (a : Int) % 2097152 = (A0 : Int) ∧ (A1 : Int) * (b : Int) = (p1 : Int) ∧ (A0 : Int) * (b : Int) = (p0 : Int) ∧ a * b = p1 * 2097152 + p0 ∧ (a ≤ 1000000000001 → b ≤ 1000000000001 → p1 ≤ 1000000000000000000 ∧ p0 ≤ 3000000000000000000) := by
  refine ⟨a / 2097152, a % 2097152, a / 2097152 * b, a % 2097152 * b, by omega, by omega, (Int.natCast_mul _ _).symm, (Int.natCast_mul _ _).symm, ?_, fun ha hb => ⟨?_, ?_⟩⟩
  · have h := Nat.div_add_mod a 2097152
    have e : a * b = (2097152 * (a / 2097152) + a % 2097152) * b := by rw [h]
    rw [e, Nat.add_mul, Nat.mul_comm 2097152, Nat.mul_right_comm]
  · have h1 : a / 2097152 ≤ 500000 := by omega
    have h2 := Nat.mul_le_mul h1 hb
    omega
  · have h1 : a % 2097152 ≤ 2097152 := by omega
    have h2 := Nat.mul_le_mul h1 hb
    omega
theorem w64 {x : Int} (h : -9000000000000000000 ≤ x ∧ x ≤ 9000000000000000000) : wrap64 x = x := by unfold wrap64; omega
theorem w64n {x : Nat} (h : x ≤ 3000000000000000000) : wrap64 (x : Int) = (x : Int) := w64 ⟨by omega, by omega⟩
theorem sub_bd {x y : Nat} (h : x ≤ 3000000000000000000) (k : y ≤ 3000000000000000000) : -3000000000000000000 ≤ (x : Int) - (y : Int) ∧ (x : Int) - (y : Int) ≤ 3000000000000000000 := ⟨by omega, by omega⟩
/-- what the comparison finds: S and R, the parts of the difference -/
theorem cmp_of {a b c d p1 p0 r1 r0 : Nat} {S R : Int} (h : a * b = p1 * 2097152 + p0) (k : c * d = r1 * 2097152 + r0) (e : ((p1 : Int) - r1) * 2097152 + ((p0 : Int) - r0) = S * 2097152 + R) (h0 : 0 ≤ R) (h1 : R < 2097152) :
    cmpV a b c d = if S < 0 then -1 else if 0 < S ∨ 0 < R then 1 else 0 := by
  unfold cmpV
  rw [h, k]
  split <;> split <;> (try split) <;> (try split) <;> first | rfl | omega
theorem tdiv_spec (L : Int) : ∃ q r : Int, L.tdiv 2097152 = q ∧ L.tmod 2097152 = r ∧ L = q * 2097152 + r ∧ -2097152 < r ∧ r < 2097152 ∧ (r < 0 → L < 0) ∧ (0 < r → 0 < L) := by
  refine ⟨L.tdiv 2097152, L.tmod 2097152, rfl, rfl, ?_, ?_, ?_, ?_, ?_⟩
  · have := Int.mul_tdiv_add_tmod L 2097152
    omega
  · have := Int.mul_tdiv_add_tmod L 2097152
    rcases Int.le_total 0 L with h | h
    · have := Int.tmod_nonneg 2097152 h
      omega
    · have := Int.lt_tmod_of_pos L (by decide : (0 : Int) < 2097152)
      omega
  · have := Int.tmod_lt_of_pos L (by decide : (0 : Int) < 2097152)
    omega
  · intro hr
    rcases Int.le_total 0 L with h | h
    · have := Int.tmod_nonneg 2097152 h
      omega
    · rcases Int.lt_or_eq_of_le h with h | h
      · exact h
      · subst h; simp at hr
  · intro hr
    rcases Int.le_total 0 L with h | h
    · rcases Int.lt_or_eq_of_le h with h | h
      · exact h
      · rw [← h] at hr; simp at hr
    · have h2 : (-L).tmod 2097152 = -(L.tmod 2097152) := by rw [Int.neg_tmod]
      have := Int.tmod_nonneg 2097152 (show 0 ≤ -L by omega)
      omega
set_option maxRecDepth 100000 in
set_option maxHeartbeats 1000000 in
/-- the walk, its steps given -/
theorem compare_walk (a b c d A1 A0 C1 C0 p1 p0 r1 r0 H L q r R Q S V : Int) (e1 : a / 2097152 = A1) (e2 : a % 2097152 = A0) (e3 : A1 * b = p1) (e4 : A0 * b = p0) (e5 : c / 2097152 = C1) (e6 : c % 2097152 = C0) (e7 : C1 * d = r1) (e8 : C0 * d = r0)
    (ha : 0 ≤ a) (hc : 0 ≤ c) (ha' : a ≤ 1000000000001) (hc' : c ≤ 1000000000001)
    (f1 : wrap64 p1 = p1) (f2 : wrap64 p0 = p0) (f3 : wrap64 r1 = r1) (f4 : wrap64 r0 = r0) (hH : p1 - r1 = H) (hL : p0 - r0 = L) (f5 : wrap64 H = H) (f6 : wrap64 L = L) (hq : L.tdiv 2097152 = q) (hr : L.tmod 2097152 = r) (f7 : wrap64 q = q) (f8 : wrap64 r = r)
    (neg : Bool) (t0 : decide (r < 0) = neg) (hR : r + 2097152 = R) (hQ : q - 1 = Q) (f9 : wrap64 R = R) (f10 : wrap64 Q = Q) (hS : H + (if neg then Q else q) = S) (f11 : wrap64 S = S)
    (hV : V = if S < 0 then -1 else if 0 < S ∨ 0 < (if neg then R else r) then 1 else 0) (w : World) :
    Calls Try.prog 17 #[.int .i64 a, .int .i64 b, .int .i64 c, .int .i64 d] w (RetB (.int .i64 V) w) := by
  cases neg
  · simp only [Bool.false_eq_true, if_false] at hS hV
    by_cases h1 : S < 0
    · rw [if_pos h1] at hV
      have t1 : decide (S < 0) = true := by simpa using h1
      (obtain HV := Lib.hid hV; clear hV; go_enter Try.func17, Try.ntmps17; go_wp2_with fail; go_ret; exact retB (vint HV.out.symm) (by repeat (first | exact Below.refl _ _ | assumption | refine Below.drew ?_ | refine below_drewN ?_ _ | refine Below.alloc ?_ (by first | omega | (simp; done) | (simp; omega)) _ | refine Below.setCell ?_ (by first | omega | (simp; done) | (simp; omega)) _ | refine Below.trans ?_ (Below.mono (by assumption) (by first | omega | (simp; done) | (simp; omega))))))
    · rw [if_neg h1] at hV
      have t1 : decide (S < 0) = false := by simpa using h1
      by_cases h2 : 0 < S
      · rw [if_pos (.inl h2)] at hV
        have t2 : decide (0 < S) = true := by simpa using h2
        (obtain HV := Lib.hid hV; clear hV; go_enter Try.func17, Try.ntmps17; go_wp2_with fail; go_ret; exact retB (vint HV.out.symm) (by repeat (first | exact Below.refl _ _ | assumption | refine Below.drew ?_ | refine below_drewN ?_ _ | refine Below.alloc ?_ (by first | omega | (simp; done) | (simp; omega)) _ | refine Below.setCell ?_ (by first | omega | (simp; done) | (simp; omega)) _ | refine Below.trans ?_ (Below.mono (by assumption) (by first | omega | (simp; done) | (simp; omega))))))
      · have t2 : decide (0 < S) = false := by simpa using h2
        by_cases h3 : 0 < r
        · rw [if_pos (.inr h3)] at hV
          have t3 : decide (0 < r) = true := by simpa using h3
          (obtain HV := Lib.hid hV; clear hV; go_enter Try.func17, Try.ntmps17; go_wp2_with fail; go_ret; exact retB (vint HV.out.symm) (by repeat (first | exact Below.refl _ _ | assumption | refine Below.drew ?_ | refine below_drewN ?_ _ | refine Below.alloc ?_ (by first | omega | (simp; done) | (simp; omega)) _ | refine Below.setCell ?_ (by first | omega | (simp; done) | (simp; omega)) _ | refine Below.trans ?_ (Below.mono (by assumption) (by first | omega | (simp; done) | (simp; omega))))))
        · rw [if_neg (by omega)] at hV
          have t3 : decide (0 < r) = false := by simpa using h3
          (obtain HV := Lib.hid hV; clear hV; go_enter Try.func17, Try.ntmps17; go_wp2_with fail; go_ret; exact retB (vint HV.out.symm) (by repeat (first | exact Below.refl _ _ | assumption | refine Below.drew ?_ | refine below_drewN ?_ _ | refine Below.alloc ?_ (by first | omega | (simp; done) | (simp; omega)) _ | refine Below.setCell ?_ (by first | omega | (simp; done) | (simp; omega)) _ | refine Below.trans ?_ (Below.mono (by assumption) (by first | omega | (simp; done) | (simp; omega))))))
  · simp only [if_true] at hS hV
    by_cases h1 : S < 0
    · rw [if_pos h1] at hV
      have t1 : decide (S < 0) = true := by simpa using h1
      (obtain HV := Lib.hid hV; clear hV; go_enter Try.func17, Try.ntmps17; go_wp2_with fail; go_ret; exact retB (vint HV.out.symm) (by repeat (first | exact Below.refl _ _ | assumption | refine Below.drew ?_ | refine below_drewN ?_ _ | refine Below.alloc ?_ (by first | omega | (simp; done) | (simp; omega)) _ | refine Below.setCell ?_ (by first | omega | (simp; done) | (simp; omega)) _ | refine Below.trans ?_ (Below.mono (by assumption) (by first | omega | (simp; done) | (simp; omega))))))
    · rw [if_neg h1] at hV
      have t1 : decide (S < 0) = false := by simpa using h1
      by_cases h2 : 0 < S
      · rw [if_pos (.inl h2)] at hV
        have t2 : decide (0 < S) = true := by simpa using h2
        (obtain HV := Lib.hid hV; clear hV; go_enter Try.func17, Try.ntmps17; go_wp2_with fail; go_ret; exact retB (vint HV.out.symm) (by repeat (first | exact Below.refl _ _ | assumption | refine Below.drew ?_ | refine below_drewN ?_ _ | refine Below.alloc ?_ (by first | omega | (simp; done) | (simp; omega)) _ | refine Below.setCell ?_ (by first | omega | (simp; done) | (simp; omega)) _ | refine Below.trans ?_ (Below.mono (by assumption) (by first | omega | (simp; done) | (simp; omega))))))
      · have t2 : decide (0 < S) = false := by simpa using h2
        by_cases h3 : 0 < R
        · rw [if_pos (.inr h3)] at hV
          have t3 : decide (0 < R) = true := by simpa using h3
          (obtain HV := Lib.hid hV; clear hV; go_enter Try.func17, Try.ntmps17; go_wp2_with fail; go_ret; exact retB (vint HV.out.symm) (by repeat (first | exact Below.refl _ _ | assumption | refine Below.drew ?_ | refine below_drewN ?_ _ | refine Below.alloc ?_ (by first | omega | (simp; done) | (simp; omega)) _ | refine Below.setCell ?_ (by first | omega | (simp; done) | (simp; omega)) _ | refine Below.trans ?_ (Below.mono (by assumption) (by first | omega | (simp; done) | (simp; omega))))))
        · rw [if_neg (by omega)] at hV
          have t3 : decide (0 < R) = false := by simpa using h3
          (obtain HV := Lib.hid hV; clear hV; go_enter Try.func17, Try.ntmps17; go_wp2_with fail; go_ret; exact retB (vint HV.out.symm) (by repeat (first | exact Below.refl _ _ | assumption | refine Below.drew ?_ | refine below_drewN ?_ _ | refine Below.alloc ?_ (by first | omega | (simp; done) | (simp; omega)) _ | refine Below.setCell ?_ (by first | omega | (simp; done) | (simp; omega)) _ | refine Below.trans ?_ (Below.mono (by assumption) (by first | omega | (simp; done) | (simp; omega))))))
theorem compare_any (a b c d : Nat) (ha : a ≤ 1000000000001) (hb : b ≤ 1000000000001) (hc : c ≤ 1000000000001) (hd : d ≤ 1000000000001) (w : World) :
    Calls Try.prog 17 #[.int .i64 (a : Int), .int .i64 (b : Int), .int .i64 (c : Int), .int .i64 (d : Int)] w (RetB (.int .i64 (cmpV a b c d)) w) := by
  obtain ⟨A1, A0, p1, p0, e1, e2, e3, e4, hp, hpb⟩ := split_mul a b
  obtain ⟨C1, C0, r1, r0, e5, e6, e7, e8, hr, hrb⟩ := split_mul c d
  obtain ⟨b1, b2⟩ := hpb ha hb
  obtain ⟨b3, b4⟩ := hrb hc hd
  obtain ⟨hH1, hH2⟩ := sub_bd (Nat.le_trans b1 (by decide)) (Nat.le_trans b3 (by decide))
  obtain ⟨hL1, hL2⟩ := sub_bd b2 b4
  obtain ⟨q, r, hq, hrr, hqr, hr1, hr2, hrn, hrp⟩ := tdiv_spec ((p0 : Int) - (r0 : Int))
  have key := fun (S : Int) => compare_walk (a : Int) b c d A1 A0 C1 C0 p1 p0 r1 r0 _ _ q r (r + 2097152) (q - 1) S (cmpV a b c d) e1 e2 e3 e4 e5 e6 e7 e8 (Int.natCast_nonneg _) (Int.natCast_nonneg _) (Int.ofNat_le.2 ha) (Int.ofNat_le.2 hc)
    (w64n (Nat.le_trans b1 (by decide))) (w64n b2) (w64n (Nat.le_trans b3 (by decide))) (w64n b4) rfl rfl (w64 ⟨Int.le_trans (by decide) hH1, Int.le_trans hH2 (by decide)⟩) (w64 ⟨Int.le_trans (by decide) hL1, Int.le_trans hL2 (by decide)⟩) hq hrr
  have hc0 := fun S R => @cmp_of a b c d p1 p0 r1 r0 S R hp hr
  clear hq hrr e1 e2 e3 e4 e5 e6 e7 e8 hp hr hpb hrb ha hb hc hd b1 b2 b3 b4
  have hq1 : -3000000000000000000 ≤ q ∧ q ≤ 3000000000000000000 := by
    generalize (p0 : Int) - (r0 : Int) = L at *
    clear key hc0 hH1 hH2
    omega
  have f7 : wrap64 q = q := w64 ⟨by omega, by omega⟩
  have f8 : wrap64 r = r := w64 ⟨by omega, by omega⟩
  cases hneg : decide (r < 0)
  · have hn : ¬ r < 0 := by simpa using hneg
    refine key ((p1 : Int) - r1 + q) f7 f8 false hneg rfl rfl (w64 ⟨by omega, by omega⟩) (w64 ⟨by omega, by omega⟩) rfl ?_ ?_ w
    · generalize (p1 : Int) - (r1 : Int) = H at *
      exact w64 ⟨by omega, by omega⟩
    · simp only [Bool.false_eq_true, if_false]
      generalize (p1 : Int) - (r1 : Int) = H at *
      generalize (p0 : Int) - (r0 : Int) = L at *
      exact hc0 _ _ (by rw [hqr, Int.add_mul, Int.add_assoc]) (by omega) (by omega)
  · have hn : r < 0 := by simpa using hneg
    refine key ((p1 : Int) - r1 + (q - 1)) f7 f8 true hneg rfl rfl (w64 ⟨by omega, by omega⟩) (w64 ⟨by omega, by omega⟩) rfl ?_ ?_ w
    · generalize (p1 : Int) - (r1 : Int) = H at *
      exact w64 ⟨by omega, by omega⟩
    · simp only [if_true]
      generalize (p1 : Int) - (r1 : Int) = H at *
      generalize (p0 : Int) - (r0 : Int) = L at *
      exact hc0 _ _ (by omega) (by omega) (by omega)
end Go.Proofs.Ytknfpdccidhhkaa
