
/- Contracts of package interval's functions over this seat's program, part two: products, and the least interval with some numbers. -/
import Derived.Test.YtegpdggadjjmkaaIntA
import Derived.Lib.Mul64
import Derived.Laws.Bits64b
namespace Go.Proofs.Ytegpdggadjjmkaa
open Go.RowKit

theorem maskN (a : Nat) (ha : a < 18446744073709551616) : bits .and .u64 (a : Int) 4294967295 = ((a % 4294967296 : Nat) : Int) := by
  have h := bits_and_u64_nat a 4294967295 ha (by omega)
  have e : a &&& 4294967295 = a % 4294967296 := Nat.and_two_pow_sub_one_eq_mod a 32
  rw [e] at h
  exact h
theorem divN (a : Nat) : (a : Int) / 4294967296 = ((a / 4294967296 : Nat) : Int) := by omega
theorem mulN (a b : Nat) : (a : Int) * (b : Int) = ((a * b : Nat) : Int) := (Int.natCast_mul a b).symm
theorem addN (a b : Nat) : (a : Int) + (b : Int) = ((a + b : Nat) : Int) := (Int.natCast_add a b).symm
theorem wrapN (a : Nat) (ha : a < 18446744073709551616) : IntKind.u64.wrap (a : Int) = (a : Int) := by rw [IntKind.wrap_u64]; omega
theorem wrapM (a : Nat) : IntKind.u64.wrap (a : Int) = ((a % 18446744073709551616 : Nat) : Int) := by rw [IntKind.wrap_u64]; omega

set_option maxHeartbeats 1000000 in
theorem mul64_any (x y : Nat) (hx : x < 18446744073709551616) (hy : y < 18446744073709551616) (w : World) :
    Calls Try.prog 42 #[.int .u64 x, .int .u64 y] w (RetS (.tuple #[.int .u64 ((x * y / 18446744073709551616 : Nat) : Int), .int .u64 ((x * y % 18446744073709551616 : Nat) : Int)]) w) := by
  obtain ⟨bd, bt, bw, hhi⟩ := Lib.mul64_hi x y hx hy
  have ba := Lib.half_mul_le (a := x / 4294967296) (b := y / 4294967296) (by omega) (by omega)
  have bb := Lib.half_mul_le (a := x / 4294967296) (b := y % 4294967296) (by omega) (by omega)
  have bc := Lib.half_mul_le (a := x % 4294967296) (b := y / 4294967296) (by omega) (by omega)
  have ba' : x / 4294967296 * (y / 4294967296) < 18446744073709551616 := by omega
  have bb' : x / 4294967296 * (y % 4294967296) < 18446744073709551616 := by omega
  have bc' : x % 4294967296 * (y / 4294967296) < 18446744073709551616 := by omega
  have bh1 : x / 4294967296 * (y / 4294967296) + (x / 4294967296 * (y % 4294967296) + x % 4294967296 * (y % 4294967296) / 4294967296) / 4294967296 < 18446744073709551616 := by omega
  have bh : x / 4294967296 * (y / 4294967296) + (x / 4294967296 * (y % 4294967296) + x % 4294967296 * (y % 4294967296) / 4294967296) / 4294967296 + ((x / 4294967296 * (y % 4294967296) + x % 4294967296 * (y % 4294967296) / 4294967296) % 4294967296 + x % 4294967296 * (y / 4294967296)) / 4294967296 < 18446744073709551616 := by omega
  go_enter Try.func42, Try.ntmps42
  go_wp2
  simp only [maskN x hx, maskN y hy, divN, mulN, addN, wrapN _ bd, wrapN _ bb', wrapN _ bt, maskN _ bt, wrapN _ bc', wrapN _ bw, wrapN _ ba', wrapN _ bh1, wrapN _ bh, wrapM (x * y)]
  rw [hhi]
  go_ret2
  exact ⟨rfl, rfl⟩

theorem sgn_cases (a : Int) : (∃ x : Nat, 0 < x ∧ a = -(x : Int)) ∨ ∃ x : Nat, a = (x : Int) := by
  rcases Int.lt_or_le a 0 with h | h
  · exact .inl ⟨(-a).toNat, by omega, by omega⟩
  · exact .inr ⟨a.toNat, by omega⟩

set_option maxHeartbeats 1000000 in
theorem times_any (a b : Int) (w : World) (h1 : -1000000000000 ≤ a) (h2 : a ≤ 1000000000000) (h3 : -1000000000000 ≤ b) (h4 : b ≤ 1000000000000) : Calls Try.prog 38 #[.int .i64 a, .int .i64 b] w (RetS (.int .i64 (sat (a * b))) w) := by
  rcases sgn_cases a with ⟨x, hx0, rfl⟩ | ⟨x, rfl⟩ <;> rcases sgn_cases b with ⟨y, hy0, rfl⟩ | ⟨y, rfl⟩
  all_goals
    have hxy : x * y ≤ 1000000000000 * 1000000000000 := Nat.mul_le_mul (by omega) (by omega)
    go_enter Try.func38, Try.ntmps38
    go_wp2_with (go_at_call 42; refine Calls.mono (mul64_any _ _ (by omega) (by omega) _) ?_; rintro e w1 ⟨rfl, rfl⟩)
    all_goals (go_ret; refine retS (vint ?_); unfold sat; (try simp only [Int.neg_mul, Int.mul_neg, Int.neg_neg]); have hc : ((x * y : Nat) : Int) = (x : Int) * (y : Int) := Int.natCast_mul x y; omega)

set_option maxHeartbeats 1000000 in
theorem min4_any (x0 x1 x2 x3 : Int) (b c : Nat) (w : World) (h0 : w.cell? ⟨b, 0, none⟩ = some (.int .i64 x0)) (h1 : w.cell? ⟨b, 1, none⟩ = some (.int .i64 x1)) (h2 : w.cell? ⟨b, 2, none⟩ = some (.int .i64 x2)) (h3 : w.cell? ⟨b, 3, none⟩ = some (.int .i64 x3)) :
    Calls Try.prog 43 #[.slice (some ⟨b, 0, none⟩) 4 c] w (RetS (.int .i64 (mn4 x0 x1 x2 x3)) w) := by
  go_enter Try.func43, Try.ntmps43
  go_wp2
  refine wp_loop_rounds 4 ?_
  repeat any_goals (rw [rounds_succ]; go_wp2)
  all_goals (go_ret; refine retS (vint ?_); unfold mn4; omega)

set_option maxHeartbeats 1000000 in
theorem max4_any (x0 x1 x2 x3 : Int) (b c : Nat) (w : World) (h0 : w.cell? ⟨b, 0, none⟩ = some (.int .i64 x0)) (h1 : w.cell? ⟨b, 1, none⟩ = some (.int .i64 x1)) (h2 : w.cell? ⟨b, 2, none⟩ = some (.int .i64 x2)) (h3 : w.cell? ⟨b, 3, none⟩ = some (.int .i64 x3)) :
    Calls Try.prog 44 #[.slice (some ⟨b, 0, none⟩) 4 c] w (RetS (.int .i64 (mx4 x0 x1 x2 x3)) w) := by
  go_enter Try.func44, Try.ntmps44
  go_wp2
  refine wp_loop_rounds 4 ?_
  repeat any_goals (rw [rounds_succ]; go_wp2)
  all_goals (go_ret; refine retS (vint ?_); unfold mx4; omega)

set_option maxHeartbeats 1000000 in
theorem around_any (x0 x1 x2 x3 : Int) (b c : Nat) (w : World) (h0 : w.cell? ⟨b, 0, none⟩ = some (.int .i64 x0)) (h1 : w.cell? ⟨b, 1, none⟩ = some (.int .i64 x1)) (h2 : w.cell? ⟨b, 2, none⟩ = some (.int .i64 x2)) (h3 : w.cell? ⟨b, 3, none⟩ = some (.int .i64 x3)) :
    Calls Try.prog 39 #[.slice (some ⟨b, 0, none⟩) 4 c] w (RetB (.agg #[.int .i64 (mn4 x0 x1 x2 x3), .int .i64 (mx4 x0 x1 x2 x3)]) w) := by
  go_enter Try.func39, Try.ntmps39
  go_wp2_with (first | (go_at_call 43; refine Calls.mono (min4_any x0 x1 x2 x3 _ _ _ (cell_alloc h0 _) (cell_alloc h1 _) (cell_alloc h2 _) (cell_alloc h3 _)) ?_; rintro e w1 ⟨rfl, rfl⟩) | (go_at_call 44; refine Calls.mono (max4_any x0 x1 x2 x3 _ _ _ (cell_alloc h0 _) (cell_alloc h1 _) (cell_alloc h2 _) (cell_alloc h3 _)) ?_; rintro e w1 ⟨rfl, rfl⟩))
  exact bodyPost_ret (v := .agg #[.int .i64 (mn4 x0 x1 x2 x3), .int .i64 (mx4 x0 x1 x2 x3)]) (by simp [results, go_sem]) rfl (retB rfl (by repeat (first | exact Below.refl _ _ | assumption | refine Below.drew ?_ | refine below_drewN ?_ _ | refine Below.alloc ?_ (by first | omega | (simp; done) | (simp; omega)) _ | refine Below.setCell ?_ (by first | omega | (simp; done) | (simp; omega)) _ | refine Below.trans ?_ (Below.mono (by assumption) (by first | omega | (simp; done) | (simp; omega))))))

theorem sat_small (n : Int) : -1000000000000 ≤ sat n ∧ sat n ≤ 1000000000000 := by unfold sat; omega

theorem le_div_mul {x y : Nat} (hy : 0 < y) (h : (x : Int) ≤ 1000000000000 / (y : Int)) : (x : Int) * (y : Int) ≤ 1000000000000 := by
  exact (Int.le_ediv_iff_mul_le (by omega)).1 h
theorem lt_div_mul {x y : Nat} (hy : 0 < y) (h : 1000000000000 / (y : Int) < (x : Int)) : 1000000000000 < (x : Int) * (y : Int) := by
  exact (Int.ediv_lt_iff_lt_mul (by omega)).1 h

set_option maxHeartbeats 2000000 in
theorem rtimes_pos (a b : Int) (x y : Nat) (w : World) (hx0 : 0 < x) (hy0 : 0 < y) (hx : x ≤ 1000000000000) (hy : y ≤ 1000000000000) (ha : a = x ∨ a = -x) (hb : b = y ∨ b = -y) : Calls Try.prog 23 #[.int .i64 a, .int .i64 b] w (RetS (.int .i64 (sat (a * b))) w) := by
  have ea : ((x : Int) == 0) = false := by simp; omega
  have eb : ((y : Int) == 0) = false := by simp; omega
  have na : (-(x : Int) == 0) = false := by simp; omega
  have nb : (-(y : Int) == 0) = false := by simp; omega
  rcases ha with rfl | rfl <;> rcases hb with rfl | rfl
  all_goals
    go_enter Try.func23, Try.ntmps23
    go_wp2
    all_goals go_ret
    all_goals refine retS (vint ?_)
    all_goals try simp only [Int.neg_mul, Int.mul_neg, Int.neg_neg]
    all_goals have hp : 0 ≤ (x : Int) * (y : Int) := Int.mul_nonneg (by omega) (by omega)
    all_goals first | (have hxy := le_div_mul (x := x) hy0 (by assumption); unfold sat wrap64; omega) | (have hxy := lt_div_mul (x := x) hy0 (by assumption); unfold sat; omega)

set_option maxHeartbeats 1000000 in
theorem rtimes_zero (a b : Int) (w : World) (h : a = 0 ∨ a ≠ 0 ∧ b = 0) : Calls Try.prog 23 #[.int .i64 a, .int .i64 b] w (RetS (.int .i64 (sat (a * b))) w) := by
  have e : sat (a * b) = 0 := by rcases h with h | ⟨_, h⟩ <;> subst h <;> simp [sat] <;> omega
  rw [e]
  clear e
  rcases h with rfl | ⟨ha, rfl⟩
  · go_enter Try.func23, Try.ntmps23
    go_wp2
    go_ret
    exact retS rfl
  · have ha' : (a == 0) = false := by simpa using ha
    go_enter Try.func23, Try.ntmps23
    go_wp2
    go_ret
    exact retS rfl

theorem rtimes_any (a b : Int) (w : World) (h1 : -1000000000000 ≤ a) (h2 : a ≤ 1000000000000) (h3 : -1000000000000 ≤ b) (h4 : b ≤ 1000000000000) : Calls Try.prog 23 #[.int .i64 a, .int .i64 b] w (RetS (.int .i64 (sat (a * b))) w) := by
  by_cases ha : a = 0
  · exact rtimes_zero a b w (.inl ha)
  · by_cases hb : b = 0
    · exact rtimes_zero a b w (.inr ⟨ha, hb⟩)
    · exact rtimes_pos a b a.natAbs b.natAbs w (by omega) (by omega) (by omega) (by omega) (by omega) (by omega)

set_option maxHeartbeats 400000 in
theorem rsat_any (a : Int) (w : World) : Calls Try.prog 22 #[.int .i64 a] w (RetS (.int .i64 (sat a)) w) := by
  go_enter Try.func22, Try.ntmps22
  go_wp2
  all_goals (go_ret; refine retS (vint ?_); unfold sat; omega)

end Go.Proofs.Ytegpdggadjjmkaa
