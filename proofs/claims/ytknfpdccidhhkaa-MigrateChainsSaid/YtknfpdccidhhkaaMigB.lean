
/- Contract of math/bits: Div64. -/
import Derived.Test.YtknfpdccidhhkaaMigA
import Derived.Test.YtknfpdccidhhkaaMigP
import Derived.Laws.Bits64b
import Derived.Lib.Mul64
namespace Go.Proofs.Ytknfpdccidhhkaa
open Go.RowKit

theorem maskN (a : Nat) (ha : a < 18446744073709551616) : bits .and .u64 (a : Int) 4294967295 = ((a % 4294967296 : Nat) : Int) := by
  have h := bits_and_u64_nat a 4294967295 ha (by omega)
  have e : a &&& 4294967295 = a % 4294967296 := Nat.and_two_pow_sub_one_eq_mod a 32
  rw [e] at h
  exact h
theorem wrapM (a : Nat) : IntKind.u64.wrap (a : Int) = ((a % 18446744073709551616 : Nat) : Int) := by rw [IntKind.wrap_u64]; omega
theorem wrapI (x : Int) (n : Nat) (h : x % 18446744073709551616 = n) : IntKind.u64.wrap x = (n : Int) := by rw [IntKind.wrap_u64]; exact h
theorem wrapS (x s n : Nat) (h : x * 2 ^ s % 18446744073709551616 = n) : IntKind.u64.wrap ((x : Int) * 2 ^ s) = (n : Int) := by
  have e : (x : Int) * 2 ^ s = ((x * 2 ^ s : Nat) : Int) := by rw [Int.natCast_mul, Int.natCast_pow]; rfl
  rw [e, wrapM, h]
theorem divS (x s n : Nat) (h : x / 2 ^ s = n) : (x : Int) / 2 ^ s = (n : Int) := by
  have e : ((2 : Int) ^ s) = ((2 ^ s : Nat) : Int) := by rw [Int.natCast_pow]; rfl
  rw [e, ← h]
  rfl
theorem wrapQ (x y n : Nat) (h : x / y = n) (hn : n < 18446744073709551616) : IntKind.u64.wrap ((x : Int).tdiv (y : Int)) = (n : Int) := by
  have e : (x : Int).tdiv (y : Int) = (n : Int) := by
    rw [← Int.ofNat_tdiv, h]
  rw [e, wrapM, Nat.mod_eq_of_lt hn]
theorem wrapP (x y n : Nat) (h : x * y = n) (hn : n < 18446744073709551616) : IntKind.u64.wrap ((x : Int) * (y : Int)) = (n : Int) := by
  have e : (x : Int) * (y : Int) = ((x * y : Nat) : Int) := by rw [Int.natCast_mul]
  rw [e, wrapM, h, Nat.mod_eq_of_lt hn]
theorem wrapPM (x y n : Nat) (h : x * y % 18446744073709551616 = n) : IntKind.u64.wrap ((x : Int) * (y : Int)) = (n : Int) := by
  have e : (x : Int) * (y : Int) = ((x * y : Nat) : Int) := by rw [Int.natCast_mul]
  rw [e, wrapM, h]
/-- the parts of a dividend that is shifted up -/
theorem parts {hi lo y s : Nat} (h1 : hi < y) (h3 : lo < 18446744073709551616) (hs : s ≤ 63) : lo / 2 ^ (64 - s) < 2 ^ s ∧ hi * 2 ^ s + lo / 2 ^ (64 - s) < y * 2 ^ s ∧
    (hi * 18446744073709551616 + lo) * 2 ^ s = (hi * 2 ^ s + lo / 2 ^ (64 - s)) * 18446744073709551616 + lo * 2 ^ s % 18446744073709551616 := by
  have hp : 0 < 2 ^ s := Nat.two_pow_pos s
  have hq : 0 < 2 ^ (64 - s) := Nat.two_pow_pos _
  have e64 : 2 ^ (64 - s) * 2 ^ s = 18446744073709551616 := by rw [← Nat.pow_add, show 64 - s + s = 64 by omega]
  have hl : lo / 2 ^ (64 - s) < 2 ^ s := by
    rw [Nat.div_lt_iff_lt_mul hq, Nat.mul_comm, e64]
    exact h3
  refine ⟨hl, ?_, ?_⟩
  · have : (hi + 1) * 2 ^ s ≤ y * 2 ^ s := Nat.mul_le_mul_right _ h1
    rw [Nat.add_mul] at this
    omega
  · have hd : lo * 2 ^ s / 18446744073709551616 = lo / 2 ^ (64 - s) := by rw [← e64, Nat.mul_div_mul_right _ _ hp]
    have hm := Nat.div_add_mod (lo * 2 ^ s) 18446744073709551616
    rw [hd] at hm
    rw [Nat.add_mul, Nat.add_mul, Nat.mul_right_comm]
    omega
theorem orN {H L u s hi : Nat} (hH : H = hi * 2 ^ s) (hL : L < 2 ^ s) (hu : u = H + L) (hlt : u < 18446744073709551616) : bits .or .u64 (H : Int) (L : Int) = (u : Int) := by
  have h := bits_or_u64_nat H L (by omega) (by omega)
  rw [h]
  have e := Nat.two_pow_add_eq_or_of_lt hL hi
  rw [Nat.mul_comm (2 ^ s) hi, ← hH, ← hu] at e
  rw [e]
end Go.Proofs.Ytknfpdccidhhkaa
