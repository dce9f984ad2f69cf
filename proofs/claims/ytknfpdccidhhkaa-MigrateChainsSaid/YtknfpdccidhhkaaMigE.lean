
/- Contracts: math/bits.Mul64, Div64 for every divisor that fits; package migrate's over. -/
import Derived.Test.YtknfpdccidhhkaaMigD
import Derived.BigQuiet
namespace Go.Proofs.Ytknfpdccidhhkaa
open Go.RowKit

theorem divN (a : Nat) : (a : Int) / 4294967296 = ((a / 4294967296 : Nat) : Int) := by omega
theorem mulN (a b : Nat) : (a : Int) * (b : Int) = ((a * b : Nat) : Int) := (Int.natCast_mul a b).symm
theorem addN (a b : Nat) : (a : Int) + (b : Int) = ((a + b : Nat) : Int) := (Int.natCast_add a b).symm
theorem wrapN (a : Nat) (ha : a < 18446744073709551616) : IntKind.u64.wrap (a : Int) = (a : Int) := by rw [IntKind.wrap_u64]; omega

set_option maxHeartbeats 1000000 in
theorem mul64_any (x y : Nat) (hx : x < 18446744073709551616) (hy : y < 18446744073709551616) (w : World) :
    Calls Try.prog 28 #[.int .u64 x, .int .u64 y] w (RetS (.tuple #[.int .u64 ((x * y / 18446744073709551616 : Nat) : Int), .int .u64 ((x * y % 18446744073709551616 : Nat) : Int)]) w) := by
  obtain ⟨bd, bt, bw, hhi⟩ := Lib.mul64_hi x y hx hy
  have ba := Lib.half_mul_le (a := x / 4294967296) (b := y / 4294967296) (by omega) (by omega)
  have bb := Lib.half_mul_le (a := x / 4294967296) (b := y % 4294967296) (by omega) (by omega)
  have bc := Lib.half_mul_le (a := x % 4294967296) (b := y / 4294967296) (by omega) (by omega)
  have ba' : x / 4294967296 * (y / 4294967296) < 18446744073709551616 := by omega
  have bb' : x / 4294967296 * (y % 4294967296) < 18446744073709551616 := by omega
  have bc' : x % 4294967296 * (y / 4294967296) < 18446744073709551616 := by omega
  have bh1 : x / 4294967296 * (y / 4294967296) + (x / 4294967296 * (y % 4294967296) + x % 4294967296 * (y % 4294967296) / 4294967296) / 4294967296 < 18446744073709551616 := by omega
  have bh : x / 4294967296 * (y / 4294967296) + (x / 4294967296 * (y % 4294967296) + x % 4294967296 * (y % 4294967296) / 4294967296) / 4294967296 + ((x / 4294967296 * (y % 4294967296) + x % 4294967296 * (y % 4294967296) / 4294967296) % 4294967296 + x % 4294967296 * (y / 4294967296)) / 4294967296 < 18446744073709551616 := by omega
  go_enter Try.func28, Try.ntmps28
  go_wp2
  simp only [maskN x hx, maskN y hy, divN, mulN, addN, wrapN _ bd, wrapN _ bb', wrapN _ bt, maskN _ bt, wrapN _ bc', wrapN _ bw, wrapN _ ba', wrapN _ bh1, wrapN _ bh, wrapM (x * y)]
  rw [hhi]
  go_ret2
  exact ⟨rfl, rfl⟩


set_option maxRecDepth 100000 in
set_option maxHeartbeats 2000000 in
theorem div64_small (lo y : Nat) (h2 : y < 18446744073709551616) (h3 : lo < 18446744073709551616) (h0 : 0 < y) (w : World) :
    Calls Try.prog 29 #[.int .u64 (0 : Int), .int .u64 (lo : Int), .int .u64 (y : Int)] w (RetB (.tuple #[.int .u64 ((lo / y : Nat) : Int), .int .u64 ((lo % y : Nat) : Int)]) w) := by
  have e1 : ((y : Int) == 0) = false := by rw [beq_eq_false_iff_ne]; omega
  have hz : ¬ (y : Int) = 0 := by omega
  have e3 : decide ((y : Int) ≤ 0) = false := by simp; omega
  have hdl : lo / y < 18446744073709551616 := Nat.lt_of_le_of_lt (Nat.div_le_self _ _) h3
  have hml : lo % y < 18446744073709551616 := Nat.lt_of_le_of_lt (Nat.mod_le _ _) h3
  go_enter Try.func29, Try.ntmps29
  go_wp2_with fail
  go_quiet (fail)
  go_wp2_with fail
  go_ret2
  exact ⟨by rw [wrapQ' lo y _ rfl hdl]; rfl, (by repeat (first | exact Below.refl _ _ | assumption | refine Below.drew ?_ | refine below_drewN ?_ _ | refine Below.alloc ?_ (by first | omega | (simp; done) | (simp; omega)) _ | refine Below.setCell ?_ (by first | omega | (simp; done) | (simp; omega)) _ | refine Below.trans ?_ (Below.mono (by assumption) (by first | omega | (simp; done) | (simp; omega)))))⟩
theorem div64_any (hi lo y : Nat) (h1 : hi < y) (h2 : y < 18446744073709551616) (h3 : lo < 18446744073709551616) (w : World) :
    Calls Try.prog 29 #[.int .u64 (hi : Int), .int .u64 (lo : Int), .int .u64 (y : Int)] w (RetB (.tuple #[.int .u64 (((hi * 18446744073709551616 + lo) / y : Nat) : Int), .int .u64 (((hi * 18446744073709551616 + lo) % y : Nat) : Int)]) w) := by
  by_cases h0 : 0 < hi
  · refine Calls.mono (div64_big hi lo y h1 h2 h3 h0 w) ?_
    rintro e w' ⟨rfl, rfl⟩
    exact ⟨rfl, Below.refl _ _⟩
  · obtain rfl : hi = 0 := by omega
    have := div64_small lo y h2 h3 (by omega) w
    rw [Nat.zero_mul, Nat.zero_add]
    exact this

/-- what is added to a quotient: nothing, or one where something remains -/
def rnd (up : Bool) (rest : Nat) : Nat := if up then min rest 1 else 0
/-- what over returns -/
def ovN (up : Bool) (a b c : Nat) : Nat := if 1000000000000 < a * b / c then 0 else a * b / c + rnd up (a * b % c)
def ovB (up : Bool) (a b c : Nat) : Bool := if 1000000000000 < a * b / c then false else decide (a * b / c + rnd up (a * b % c) ≤ 1000000000000)

theorem down_any (r : Nat) (w : World) : Calls Try.prog 20 #[.int .u64 (r : Int)] w (RetB (.int .u64 (rnd false r : Int)) w) := by
  go_enter Try.func20, Try.ntmps20
  go_wp2_with fail
  go_ret
  exact retB rfl (by repeat (first | exact Below.refl _ _ | assumption | refine Below.drew ?_ | refine below_drewN ?_ _ | refine Below.alloc ?_ (by first | omega | (simp; done) | (simp; omega)) _ | refine Below.setCell ?_ (by first | omega | (simp; done) | (simp; omega)) _ | refine Below.trans ?_ (Below.mono (by assumption) (by first | omega | (simp; done) | (simp; omega)))))
theorem up_any (r : Nat) (w : World) : Calls Try.prog 21 #[.int .u64 (r : Int)] w (RetB (.int .u64 (rnd true r : Int)) w) := by
  go_enter Try.func21, Try.ntmps21
  go_wp2
  all_goals
    go_ret
    refine retB (congrArg (Value.int IntKind.u64) ?_) (by repeat (first | exact Below.refl _ _ | assumption | refine Below.drew ?_ | refine below_drewN ?_ _ | refine Below.alloc ?_ (by first | omega | (simp; done) | (simp; omega)) _ | refine Below.setCell ?_ (by first | omega | (simp; done) | (simp; omega)) _ | refine Below.trans ?_ (Below.mono (by assumption) (by first | omega | (simp; done) | (simp; omega)))))
    unfold rnd
    simp
    omega
set_option maxRecDepth 100000 in
set_option maxHeartbeats 2000000 in
theorem over_false (a b c : Nat) (ha : a ≤ 1000000000000) (hb : b ≤ 1000000000000) (hc : c ≤ 1000000000000) (hc0 : 0 < c) (w : World) :
    Calls Try.prog 22 #[.int .i64 (a : Int), .int .i64 (b : Int), .int .i64 (c : Int), .func (.func 20) #[] #[]] w (RetB (.tuple #[.int .i64 (ovN false a b c : Int), .bool (ovB false a b c)]) w) := by
  obtain ⟨P, hP⟩ : ∃ P, P = a * b := ⟨_, rfl⟩
  have hPl : P ≤ 1000000000000 * 1000000000000 := by rw [hP]; exact Nat.mul_le_mul ha hb
  obtain ⟨hi, hhi⟩ : ∃ hi, hi = P / 18446744073709551616 := ⟨_, rfl⟩
  obtain ⟨lo, hlo⟩ : ∃ lo, lo = P % 18446744073709551616 := ⟨_, rfl⟩
  have hlol : lo < 18446744073709551616 := by omega
  have hPe : hi * 18446744073709551616 + lo = P := by omega
  have c1 := mul64_any a b (by omega) (by omega) w
  rw [← hP, ← hhi, ← hlo] at c1
  have HC1 := Lib.hid c1
  obtain ⟨n, hn⟩ : ∃ n, n = P / c := ⟨_, rfl⟩
  obtain ⟨rest, hrest⟩ : ∃ rest, rest = P % c := ⟨_, rfl⟩
  have HN := Lib.hid (show ovN false a b c = (if 1000000000000 < n then 0 else n + rnd false rest) by unfold ovN; rw [← hP, ← hn, ← hrest])
  have HB := Lib.hid (show ovB false a b c = (if 1000000000000 < n then false else decide (n + rnd false rest ≤ 1000000000000)) by unfold ovB; rw [← hP, ← hn, ← hrest])
  by_cases hge : c ≤ hi
  · have hbig : 1000000000000 < n := by
      rw [hn]
      have : c * 18446744073709551616 ≤ P := by omega
      have := (Nat.le_div_iff_mul_le hc0).2 (show 18446744073709551616 * c ≤ P by omega)
      omega
    have HBG := Lib.hid hbig
    have d1 : decide ((c : Int) ≤ (hi : Int)) = true := by simp; omega
    have d2 : decide (c ≤ hi) = true := by simpa using hge
    clear c1 hP hhi hlo hPe hn hrest hbig
    go_enter Try.func22, Try.ntmps22
    go_wp2_with fail
    refine Calls.mono HC1.out ?_
    rintro e w2 ⟨rfl, rfl⟩
    go_wp2_with fail
    go_ret2
    exact ⟨by rw [HN.out, HB.out, if_pos HBG.out, if_pos HBG.out]; rfl, (by repeat (first | exact Below.refl _ _ | assumption | refine Below.drew ?_ | refine below_drewN ?_ _ | refine Below.alloc ?_ (by first | omega | (simp; done) | (simp; omega)) _ | refine Below.setCell ?_ (by first | omega | (simp; done) | (simp; omega)) _ | refine Below.trans ?_ (Below.mono (by assumption) (by first | omega | (simp; done) | (simp; omega)))))⟩
  · have d1 : decide ((c : Int) ≤ (hi : Int)) = false := by simp; omega
    have d2 : decide (c ≤ hi) = false := by simpa using hge
    have c2 := div64_any hi lo c (by omega) (by omega) hlol w
    rw [hPe, ← hn, ← hrest] at c2
    have HC2 := Lib.hid c2
    have hrc : rest < c := by rw [hrest]; exact Nat.mod_lt _ hc0
    by_cases hbig : 1000000000000 < n
    · have d3 : decide ((1000000000000 : Int) < (n : Int)) = true := by simp; omega
      have d4 : decide (1000000000000 < n) = true := by simpa using hbig
      have HBG := Lib.hid hbig
      clear c1 c2 hP hhi hlo hPe hn hrest hbig
      go_enter Try.func22, Try.ntmps22
      go_wp2_with fail
      refine Calls.mono HC1.out ?_
      rintro e w2 ⟨rfl, rfl⟩
      go_wp2_with fail
      refine Calls.mono HC2.out ?_
      rintro e w3 ⟨rfl, hb3⟩
      have hs3 := hb3.size
      go_wp2_with fail
      go_ret2
      exact ⟨by rw [HN.out, HB.out, if_pos HBG.out, if_pos HBG.out]; rfl, (by repeat (first | exact Below.refl _ _ | assumption | refine Below.drew ?_ | refine below_drewN ?_ _ | refine Below.alloc ?_ (by first | omega | (simp; done) | (simp; omega)) _ | refine Below.setCell ?_ (by first | omega | (simp; done) | (simp; omega)) _ | refine Below.trans ?_ (Below.mono (by assumption) (by first | omega | (simp; done) | (simp; omega)))))⟩
    · have d3 : decide ((1000000000000 : Int) < (n : Int)) = false := by simp; omega
      have d4 : decide (1000000000000 < n) = false := by simpa using hbig
      have HBG := Lib.hid hbig
      obtain ⟨m, hm⟩ : ∃ m, m = rnd false rest := ⟨_, rfl⟩
      have hml : m ≤ 1 := by rw [hm]; unfold rnd; simp; try omega
      have HM := Lib.hid hm
      obtain ⟨t, ht⟩ : ∃ t, t = n + m := ⟨_, rfl⟩
      have f1 : IntKind.u64.wrap ((n : Int) + (m : Int)) = (t : Int) := wrapI _ _ (by omega)
      have htl : t ≤ 1000000000001 := by omega
      have HT := Lib.hid ht
      clear c1 c2 hP hhi hlo hPe hn hrest hbig hm ht
      go_enter Try.func22, Try.ntmps22
      go_wp2_with fail
      refine Calls.mono HC1.out ?_
      rintro e w2 ⟨rfl, rfl⟩
      go_wp2_with fail
      refine Calls.mono HC2.out ?_
      rintro e w3 ⟨rfl, hb3⟩
      have hs3 := hb3.size
      go_wp2_with fail
      refine Calls.mono (down_any rest _) ?_
      rw [← HM.out]
      rintro e w4 ⟨rfl, hb4⟩
      have hs4 := hb4.size
      go_wp2_with fail
      go_ret2
      exact ⟨by rw [HN.out, HB.out, if_neg HBG.out, if_neg HBG.out, ← HM.out, ← HT.out]; first | rfl | (simp; done) | (simp; omega), (by repeat (first | exact Below.refl _ _ | assumption | refine Below.drew ?_ | refine below_drewN ?_ _ | refine Below.alloc ?_ (by first | omega | (simp; done) | (simp; omega)) _ | refine Below.setCell ?_ (by first | omega | (simp; done) | (simp; omega)) _ | refine Below.trans ?_ (Below.mono (by assumption) (by first | omega | (simp; done) | (simp; omega)))))⟩
set_option maxRecDepth 100000 in
set_option maxHeartbeats 2000000 in
theorem over_true (a b c : Nat) (ha : a ≤ 1000000000000) (hb : b ≤ 1000000000000) (hc : c ≤ 1000000000000) (hc0 : 0 < c) (w : World) :
    Calls Try.prog 22 #[.int .i64 (a : Int), .int .i64 (b : Int), .int .i64 (c : Int), .func (.func 21) #[] #[]] w (RetB (.tuple #[.int .i64 (ovN true a b c : Int), .bool (ovB true a b c)]) w) := by
  obtain ⟨P, hP⟩ : ∃ P, P = a * b := ⟨_, rfl⟩
  have hPl : P ≤ 1000000000000 * 1000000000000 := by rw [hP]; exact Nat.mul_le_mul ha hb
  obtain ⟨hi, hhi⟩ : ∃ hi, hi = P / 18446744073709551616 := ⟨_, rfl⟩
  obtain ⟨lo, hlo⟩ : ∃ lo, lo = P % 18446744073709551616 := ⟨_, rfl⟩
  have hlol : lo < 18446744073709551616 := by omega
  have hPe : hi * 18446744073709551616 + lo = P := by omega
  have c1 := mul64_any a b (by omega) (by omega) w
  rw [← hP, ← hhi, ← hlo] at c1
  have HC1 := Lib.hid c1
  obtain ⟨n, hn⟩ : ∃ n, n = P / c := ⟨_, rfl⟩
  obtain ⟨rest, hrest⟩ : ∃ rest, rest = P % c := ⟨_, rfl⟩
  have HN := Lib.hid (show ovN true a b c = (if 1000000000000 < n then 0 else n + rnd true rest) by unfold ovN; rw [← hP, ← hn, ← hrest])
  have HB := Lib.hid (show ovB true a b c = (if 1000000000000 < n then false else decide (n + rnd true rest ≤ 1000000000000)) by unfold ovB; rw [← hP, ← hn, ← hrest])
  by_cases hge : c ≤ hi
  · have hbig : 1000000000000 < n := by
      rw [hn]
      have : c * 18446744073709551616 ≤ P := by omega
      have := (Nat.le_div_iff_mul_le hc0).2 (show 18446744073709551616 * c ≤ P by omega)
      omega
    have HBG := Lib.hid hbig
    have d1 : decide ((c : Int) ≤ (hi : Int)) = true := by simp; omega
    have d2 : decide (c ≤ hi) = true := by simpa using hge
    clear c1 hP hhi hlo hPe hn hrest hbig
    go_enter Try.func22, Try.ntmps22
    go_wp2_with fail
    refine Calls.mono HC1.out ?_
    rintro e w2 ⟨rfl, rfl⟩
    go_wp2_with fail
    go_ret2
    exact ⟨by rw [HN.out, HB.out, if_pos HBG.out, if_pos HBG.out]; rfl, (by repeat (first | exact Below.refl _ _ | assumption | refine Below.drew ?_ | refine below_drewN ?_ _ | refine Below.alloc ?_ (by first | omega | (simp; done) | (simp; omega)) _ | refine Below.setCell ?_ (by first | omega | (simp; done) | (simp; omega)) _ | refine Below.trans ?_ (Below.mono (by assumption) (by first | omega | (simp; done) | (simp; omega)))))⟩
  · have d1 : decide ((c : Int) ≤ (hi : Int)) = false := by simp; omega
    have d2 : decide (c ≤ hi) = false := by simpa using hge
    have c2 := div64_any hi lo c (by omega) (by omega) hlol w
    rw [hPe, ← hn, ← hrest] at c2
    have HC2 := Lib.hid c2
    have hrc : rest < c := by rw [hrest]; exact Nat.mod_lt _ hc0
    by_cases hbig : 1000000000000 < n
    · have d3 : decide ((1000000000000 : Int) < (n : Int)) = true := by simp; omega
      have d4 : decide (1000000000000 < n) = true := by simpa using hbig
      have HBG := Lib.hid hbig
      clear c1 c2 hP hhi hlo hPe hn hrest hbig
      go_enter Try.func22, Try.ntmps22
      go_wp2_with fail
      refine Calls.mono HC1.out ?_
      rintro e w2 ⟨rfl, rfl⟩
      go_wp2_with fail
      refine Calls.mono HC2.out ?_
      rintro e w3 ⟨rfl, hb3⟩
      have hs3 := hb3.size
      go_wp2_with fail
      go_ret2
      exact ⟨by rw [HN.out, HB.out, if_pos HBG.out, if_pos HBG.out]; rfl, (by repeat (first | exact Below.refl _ _ | assumption | refine Below.drew ?_ | refine below_drewN ?_ _ | refine Below.alloc ?_ (by first | omega | (simp; done) | (simp; omega)) _ | refine Below.setCell ?_ (by first | omega | (simp; done) | (simp; omega)) _ | refine Below.trans ?_ (Below.mono (by assumption) (by first | omega | (simp; done) | (simp; omega)))))⟩
    · have d3 : decide ((1000000000000 : Int) < (n : Int)) = false := by simp; omega
      have d4 : decide (1000000000000 < n) = false := by simpa using hbig
      have HBG := Lib.hid hbig
      obtain ⟨m, hm⟩ : ∃ m, m = rnd true rest := ⟨_, rfl⟩
      have hml : m ≤ 1 := by rw [hm]; unfold rnd; simp; try omega
      have HM := Lib.hid hm
      obtain ⟨t, ht⟩ : ∃ t, t = n + m := ⟨_, rfl⟩
      have f1 : IntKind.u64.wrap ((n : Int) + (m : Int)) = (t : Int) := wrapI _ _ (by omega)
      have htl : t ≤ 1000000000001 := by omega
      have HT := Lib.hid ht
      clear c1 c2 hP hhi hlo hPe hn hrest hbig hm ht
      go_enter Try.func22, Try.ntmps22
      go_wp2_with fail
      refine Calls.mono HC1.out ?_
      rintro e w2 ⟨rfl, rfl⟩
      go_wp2_with fail
      refine Calls.mono HC2.out ?_
      rintro e w3 ⟨rfl, hb3⟩
      have hs3 := hb3.size
      go_wp2_with fail
      refine Calls.mono (up_any rest _) ?_
      rw [← HM.out]
      rintro e w4 ⟨rfl, hb4⟩
      have hs4 := hb4.size
      go_wp2_with fail
      go_ret2
      exact ⟨by rw [HN.out, HB.out, if_neg HBG.out, if_neg HBG.out, ← HM.out, ← HT.out]; first | rfl | (simp; done) | (simp; omega), (by repeat (first | exact Below.refl _ _ | assumption | refine Below.drew ?_ | refine below_drewN ?_ _ | refine Below.alloc ?_ (by first | omega | (simp; done) | (simp; omega)) _ | refine Below.setCell ?_ (by first | omega | (simp; done) | (simp; omega)) _ | refine Below.trans ?_ (Below.mono (by assumption) (by first | omega | (simp; done) | (simp; omega)))))⟩
end Go.Proofs.Ytknfpdccidhhkaa
