

/- Package judge's situations: how one lies in memory and as a key; bits. -/
import Derived.Test.YtgccankekflchaaJdgB
import Derived.Test.YtgccankekflchaaMaps
import Derived.Laws.BitsLemmas
import Derived.Laws.IdiomCopy
import Derived.StillTailTactics
import Derived.BigRegion
import Derived.RegionTactic
namespace Go.Proofs.Ytgccankekflchaa
open Go.RowKit

/-! ### bits -/
def bitsU (l : List Bool) : Nat → Nat
  | 0 => 0
  | k + 1 => bitsU l k + if bg l k then 2 ^ k else 0
theorem bitsU_succ (l : List Bool) (k : Nat) : bitsU l (k + 1) = bitsU l k + if bg l k then 2 ^ k else 0 := rfl
theorem bitsU_lt (l : List Bool) : ∀ k, bitsU l k < 2 ^ k
  | 0 => by simp [bitsU]
  | k + 1 => by
    have := bitsU_lt l k
    unfold bitsU
    rw [Nat.pow_succ]
    split <;> omega
theorem bitsU_at (l : List Bool) {v : Nat} : ∀ k, v < k → bitsU l k / 2 ^ v % 2 = if bg l v then 1 else 0
  | 0, h => absurd h (by omega)
  | k + 1, h => by
    unfold bitsU
    by_cases e : v = k
    · subst e
      have := bitsU_lt l v
      have hp : 0 < 2 ^ v := Nat.two_pow_pos v
      split
      · rw [Nat.add_div_right _ hp, Nat.div_eq_of_lt this]
      · rw [Nat.add_zero, Nat.div_eq_of_lt this]
    · have ih := bitsU_at l k (v := v) (by omega)
      split
      · have e2 : 2 ^ k = 2 * 2 ^ (k - v - 1) * 2 ^ v := by rw [Nat.mul_comm 2, ← Nat.pow_succ, ← Nat.pow_add]; congr 1; omega
        rw [e2, Nat.add_mul_div_right _ _ (Nat.two_pow_pos v), Nat.add_mod, Nat.mul_mod_right, Nat.add_zero, Nat.mod_mod]
        exact ih
      · rw [Nat.add_zero]; exact ih
theorem bg_set (l : List Bool) (v j : Nat) (h : v < l.length) : bg (l.set v true) j = if v = j then true else bg l j := by
  simp only [bg, List.getD_eq_getElem?_getD, List.getElem?_set]
  by_cases e : v = j
  · subst e; simp [h]
  · simp [e]
theorem bitsU_set {l : List Bool} {v : Nat} (hv : v < l.length) (hf : bg l v = false) : ∀ k, bitsU (l.set v true) k = bitsU l k + if v < k then 2 ^ v else 0
  | 0 => by simp [bitsU]
  | k + 1 => by
    have ih := bitsU_set hv hf k
    unfold bitsU
    rw [ih, bg_set l v k hv]
    by_cases e : v = k
    · subst e
      simp [hf]
    · rw [if_neg e]
      have e2 : (v < k + 1) ↔ (v < k) := by omega
      simp only [e2]
      omega
theorem or_bit : ∀ F : Nat, F < 64 → ∀ v : Nat, v < 6 → F / 2 ^ v % 2 = 0 → bits .or .i64 (F : Int) ((2 ^ v : Nat) : Int) = ((F + 2 ^ v : Nat) : Int) := by decide +kernel
/-- setting bit k, as the program does it -/
theorem shl_or {F k : Nat} (hF : F < 2 ^ k) (hk : k < 6) : bits .or .i64 (F : Int) (IntKind.i64.wrap (2 ^ k)) = ((F + 2 ^ k : Nat) : Int) := by
  have hp : 2 ^ k ≤ 32 := by
    have : k = 0 ∨ k = 1 ∨ k = 2 ∨ k = 3 ∨ k = 4 ∨ k = 5 := by omega
    rcases this with rfl | rfl | rfl | rfl | rfl | rfl <;> decide
  have e : IntKind.i64.wrap ((2 : Int) ^ k) = ((2 ^ k : Nat) : Int) := by
    rw [show ((2 : Int) ^ k) = ((2 ^ k : Nat) : Int) from (Int.natCast_pow 2 k).symm]
    exact IntWalk.i64_in _ (by omega)
  rw [e]
  exact or_bit F (by omega) k hk (by rw [Nat.div_eq_of_lt hF])
theorem and_one (n : Int) : bits .and .i64 n 1 = n % 2 := by
  have h1 : (BitVec.ofInt 64 1).toNat = 2 ^ 1 - 1 := by decide
  have key : (BitVec.ofInt 64 n &&& BitVec.ofInt 64 1).toNat = (n % ((2 ^ 64 : Nat) : Int)).toNat % 2 ^ 1 := by
    rw [BitVec.toNat_and, BitVec.toNat_ofInt, h1, Nat.and_two_pow_sub_one_eq_mod]
  show IntKind.i64.wrap ((BitVec.ofInt 64 n &&& BitVec.ofInt 64 1).toNat : Nat) = n % 2
  rw [key, IntKind.wrap_i64]
  omega

/-! ### a situation -/
abbrev sit10 (t b m s0 s1 s2 s3 s4 s5 f : Int) : Value := .agg #[.int .i64 t, .int .i64 b, .int .i64 m, .int .i64 s0, .int .i64 s1, .int .i64 s2, .int .i64 s3, .int .i64 s4, .int .i64 s5, .int .i64 f]
def sitV (s : St) : Value := sit10 s.turn s.budget s.starts.length (ig s.starts 0) (ig s.starts 1) (ig s.starts 2) (ig s.starts 3) (ig s.starts 4) (ig s.starts 5) (bitsU s.failed s.failed.length)
/-- numbers of the machine -/
def inI (n : Int) : Prop := -9223372036854775808 ≤ n ∧ n < 9223372036854775808
structure Fit6 (s : St) : Prop where
  m : s.starts.length ≤ 6
  f : s.failed.length = s.starts.length
theorem sitV_inj {s s' : St} (h : Fit6 s) (h' : Fit6 s') (e : sitV s = sitV s') : s = s' := by
  unfold sitV sit10 at e
  simp only [Value.agg.injEq, Array.mk.injEq, List.cons.injEq, Value.int.injEq, true_and, and_true] at e
  obtain ⟨e1, e2, e3, e4, e5, e6, e7, e8, e9, e10⟩ := e
  have hm := h.m
  have hl : s.starts.length = s'.starts.length := by omega
  have hlf : s.failed.length = s'.failed.length := by rw [h.f, h'.f, hl]
  have hst : s.starts = s'.starts := by
    refine List.ext_getElem hl fun i h1 h2 => ?_
    rw [← ig_lt h1, ← ig_lt h2]
    have : i = 0 ∨ i = 1 ∨ i = 2 ∨ i = 3 ∨ i = 4 ∨ i = 5 := by omega
    rcases this with rfl | rfl | rfl | rfl | rfl | rfl <;> assumption
  have hfl : s.failed = s'.failed := by
    refine List.ext_getElem hlf fun i h1 h2 => ?_
    rw [← bg_lt h1, ← bg_lt h2]
    have b1 := bitsU_at s.failed s.failed.length h1
    have b2 := bitsU_at s'.failed s'.failed.length h2
    have e10' : bitsU s.failed s.failed.length = bitsU s'.failed s'.failed.length := by omega
    rw [e10', b2] at b1
    cases hx : bg s.failed i <;> cases hy : bg s'.failed i <;> rw [hx, hy] at b1 <;> simp at b1 <;> rfl
  exact St.ext' e1 hst hfl e2
end Go.Proofs.Ytgccankekflchaa

