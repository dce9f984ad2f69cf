
/- Contracts of math/bits: Len64, LeadingZeros64. -/
import Derived.Test.YtknfpdccidhhkaaBase
import Derived.Test.YtknfpdccidhhkaaProg
import Derived.Lib.Strings
import Derived.Lib.Slices
import Derived.Lib.Small
import Derived.Lib.Walk
import Derived.Lib.BitFns
import Derived.Deep.Light
namespace Go.Proofs.Ytknfpdccidhhkaa
open Go.RowKit

theorem plus_wrap (k a b : Nat) (hk : k ≤ 56) (ha : a ≤ 8) (hb : b = k + a) : wrap64 ((k : Int) + wrap64 (a : Int)) = (b : Int) := by
  unfold wrap64
  omega
theorem two_wraps (a : Nat) (ha : a ≤ 8) : wrap64 (wrap64 (a : Int)) = (a : Int) := by
  unfold wrap64
  omega
theorem one_wrap (a : Nat) (ha : a ≤ 8) : wrap64 (a : Int) = (a : Int) := by
  unfold wrap64
  omega
theorem len8_cell (y : Int) (h : y.toNat < Lib.len8tab.size) : ((Lib.len8tab[y.toNat]'h).toNat : Int) = Lib.len8 y := by
  unfold Lib.len8
  rw [getElem?_pos Lib.len8tab y.toNat h]
  rfl
set_option maxHeartbeats 16000000 in
set_option maxRecDepth 100000 in
theorem len64_any (x : Int) (w : World) (h0 : 0 ≤ x) (h1 : x ≤ 18446744073709551615) : Calls Try.prog 33 #[.int .u64 x] w (RetS (.int .i64 (Lib.bitLen x.toNat)) w) := by
  go_enter Try.func33, Try.ntmps33
  go_wp2
  all_goals first
    | (go_ret; refine retS (vint ?_); go_light)
    | (exfalso
       go_light
       have hs := Lib.len8tab_size
       omega)
  all_goals first
    | (rw [len8_cell (x / 4294967296 / 65536 / 256) _, Lib.len8_of (x / 4294967296 / 65536 / 256) (by omega) (by omega)]
       have e : (x / 4294967296 / 65536 / 256).toNat = x.toNat / 72057594037927936 := by omega
       have l := Lib.bitLen_le8' (x / 4294967296 / 65536 / 256) (by omega) (by omega)
       have s := Lib.bitLen_shift56 x.toNat (by omega) (by omega)
       rw [e] at l ⊢
       exact plus_wrap 56 _ _ (by decide) l s)
    | (rw [len8_cell (x / 4294967296 / 65536) _, Lib.len8_of (x / 4294967296 / 65536) (by omega) (by omega)]
       have e : (x / 4294967296 / 65536).toNat = x.toNat / 281474976710656 := by omega
       have l := Lib.bitLen_le8' (x / 4294967296 / 65536) (by omega) (by omega)
       have s := Lib.bitLen_shift48 x.toNat (by omega) (by omega)
       rw [e] at l ⊢
       exact plus_wrap 48 _ _ (by decide) l s)
    | (rw [len8_cell (x / 4294967296 / 256) _, Lib.len8_of (x / 4294967296 / 256) (by omega) (by omega)]
       have e : (x / 4294967296 / 256).toNat = x.toNat / 1099511627776 := by omega
       have l := Lib.bitLen_le8' (x / 4294967296 / 256) (by omega) (by omega)
       have s := Lib.bitLen_shift40 x.toNat (by omega) (by omega)
       rw [e] at l ⊢
       exact plus_wrap 40 _ _ (by decide) l s)
    | (rw [len8_cell (x / 4294967296) _, Lib.len8_of (x / 4294967296) (by omega) (by omega)]
       have e : (x / 4294967296).toNat = x.toNat / 4294967296 := by omega
       have l := Lib.bitLen_le8' (x / 4294967296) (by omega) (by omega)
       have s := Lib.bitLen_shift32 x.toNat (by omega) (by omega)
       rw [e] at l ⊢
       exact plus_wrap 32 _ _ (by decide) l s)
    | (rw [len8_cell (x / 65536 / 256) _, Lib.len8_of (x / 65536 / 256) (by omega) (by omega)]
       have e : (x / 65536 / 256).toNat = x.toNat / 16777216 := by omega
       have l := Lib.bitLen_le8' (x / 65536 / 256) (by omega) (by omega)
       have s := Lib.bitLen_shift24 x.toNat (by omega) (by omega)
       rw [e] at l ⊢
       exact plus_wrap 24 _ _ (by decide) l s)
    | (rw [len8_cell (x / 65536) _, Lib.len8_of (x / 65536) (by omega) (by omega)]
       have e : (x / 65536).toNat = x.toNat / 65536 := by omega
       have l := Lib.bitLen_le8' (x / 65536) (by omega) (by omega)
       have s := Lib.bitLen_shift16 x.toNat (by omega) (by omega)
       rw [e] at l ⊢
       exact plus_wrap 16 _ _ (by decide) l s)
    | (rw [len8_cell (x / 256) _, Lib.len8_of (x / 256) (by omega) (by omega)]
       have e : (x / 256).toNat = x.toNat / 256 := by omega
       have l := Lib.bitLen_le8' (x / 256) (by omega) (by omega)
       have s := Lib.bitLen_shift8 x.toNat (by omega) (by omega)
       rw [e] at l ⊢
       exact plus_wrap 8 _ _ (by decide) l s)
    | (rw [len8_cell x _, Lib.len8_of x (by omega) (by omega)]
       have l := Lib.bitLen_le8' x (by omega) (by omega)
       first | exact two_wraps _ l | exact plus_wrap 0 _ _ (by decide) l (by omega) | exact one_wrap _ l)
theorem bitLen_spec (x : Nat) (h0 : 0 < x) (h : x < 2 ^ 64) : 1 ≤ Lib.bitLen x ∧ 2 ^ (Lib.bitLen x - 1) ≤ x ∧ x < 2 ^ Lib.bitLen x := by
  induction x using Nat.strongRecOn with
  | _ x ih =>
    have hh := Lib.bitLen_half x (by omega) h
    by_cases h1 : x = 1
    · subst h1; decide
    · obtain ⟨i1, i2, i3⟩ := ih (x / 2) (by omega) (by omega) (by omega)
      rw [hh]
      have e : 2 ^ (1 + Lib.bitLen (x / 2) - 1) = 2 * 2 ^ (Lib.bitLen (x / 2) - 1) := by
        rw [show 1 + Lib.bitLen (x / 2) - 1 = Lib.bitLen (x / 2) - 1 + 1 by omega, Nat.pow_succ]
        omega
      have e2 : 2 ^ (1 + Lib.bitLen (x / 2)) = 2 * 2 ^ Lib.bitLen (x / 2) := by
        rw [Nat.add_comm, Nat.pow_succ]
        omega
      rw [e, e2]
      omega
/-- how far a number can be shifted up -/
def lz (y : Nat) : Nat := 64 - Lib.bitLen y
theorem lz_spec {y : Nat} (h0 : 0 < y) (h : y < 2 ^ 64) : lz y ≤ 63 ∧ 2 ^ 63 ≤ y * 2 ^ lz y ∧ y * 2 ^ lz y < 2 ^ 64 := by
  obtain ⟨h1, h2, h3⟩ := bitLen_spec y h0 h
  have hb := Lib.bitLen_le y 64 (by omega) h
  unfold lz
  refine ⟨by omega, ?_, ?_⟩
  · have := Nat.mul_le_mul_right (2 ^ (64 - Lib.bitLen y)) h2
    rw [← Nat.pow_add, show Lib.bitLen y - 1 + (64 - Lib.bitLen y) = 63 by omega] at this
    exact this
  · have := Nat.mul_lt_mul_of_pos_right h3 (show 0 < 2 ^ (64 - Lib.bitLen y) from Nat.two_pow_pos _)
    rw [← Nat.pow_add, show Lib.bitLen y + (64 - Lib.bitLen y) = 64 by omega] at this
    exact this
theorem lead_any (y : Nat) (w : World) (h : y < 18446744073709551616) : Calls Try.prog 32 #[.int .u64 (y : Int)] w (RetS (.int .i64 (lz y : Int)) w) := by
  have hb := Lib.bitLen_le y 64 (by omega) h
  go_enter Try.func32, Try.ntmps32
  go_wp2_with fail
  refine Calls.mono (len64_any (y : Int) _ (by omega) (by omega)) ?_
  rintro e w2 ⟨rfl, rfl⟩
  rw [Int.toNat_natCast]
  go_wp2_with fail
  go_ret
  refine retS (vint ?_)
  unfold lz
  have : IntKind.i64.wrap (64 - (Lib.bitLen y : Int)) = 64 - (Lib.bitLen y : Int) := IntWalk.i64_in _ (by omega)
  first | omega | (rw [this]; omega) | (simp [goInt]; omega)
end Go.Proofs.Ytknfpdccidhhkaa
