
/- Contract of math/bits: Div64, the walk. -/
import Derived.Test.YtknfpdccidhhkaaMigB
import Derived.Deep.LoopGhost
namespace Go.Proofs.Ytknfpdccidhhkaa
open Go.RowKit

theorem wrapQ' (x y n : Nat) (h : x / y = n) (hn : n < 18446744073709551616) : IntKind.u64.wrap ((x : Int) / (y : Int)) = (n : Int) := by
  have e : (x : Int) / (y : Int) = (n : Int) := by rw [← h]; rfl
  rw [e, wrapM, Nat.mod_eq_of_lt hn]
set_option maxRecDepth 100000 in
set_option maxHeartbeats 4000000 in
theorem div64_big (hi lo y : Nat) (h1 : hi < y) (h2 : y < 18446744073709551616) (h3 : lo < 18446744073709551616) (h0 : 0 < hi) (w : World) :
    Calls Try.prog 29 #[.int .u64 (hi : Int), .int .u64 (lo : Int), .int .u64 (y : Int)] w (RetS (.tuple #[.int .u64 (((hi * 18446744073709551616 + lo) / y : Nat) : Int), .int .u64 (((hi * 18446744073709551616 + lo) % y : Nat) : Int)]) w) := by
  have e1 : ((y : Int) == 0) = false := by rw [beq_eq_false_iff_ne]; omega
  have e2 : ((hi : Int) == 0) = false := by rw [beq_eq_false_iff_ne]; omega
  have e3 : decide ((y : Int) ≤ (hi : Int)) = false := by simp; omega
  have e4 : decide (y ≤ hi) = false := by simp; omega
  obtain ⟨s1, s2, s3⟩ := lz_spec (y := y) (by omega) h2
  obtain ⟨s, hs⟩ : ∃ s, s = lz y := ⟨_, rfl⟩
  have c := lead_any y w h2
  rw [← hs] at c s1 s2 s3
  have HC := Lib.hid c
  obtain ⟨p1, p2, p3⟩ := parts (lo := lo) h1 h3 s1
  obtain ⟨Y, hYs⟩ : ∃ Y, Y = y * 2 ^ s := ⟨_, rfl⟩
  obtain ⟨H, hH⟩ : ∃ H, H = hi * 2 ^ s := ⟨_, rfl⟩
  obtain ⟨L, hL⟩ : ∃ L, lo / 2 ^ (64 - s) = L := ⟨_, rfl⟩
  obtain ⟨V, hV⟩ : ∃ V, lo * 2 ^ s % 18446744073709551616 = V := ⟨_, rfl⟩
  obtain ⟨u, hu⟩ : ∃ u, u = H + L := ⟨_, rfl⟩
  rw [← hYs] at s2 s3 p2
  rw [← hH, hL, ← hu] at p2 p3
  rw [hL] at p1
  rw [hV] at p3
  have hVl : V < 18446744073709551616 := by rw [← hV]; exact Nat.mod_lt _ (by decide)
  obtain ⟨y1, hy1⟩ : ∃ y1, y1 = Y / 4294967296 := ⟨_, rfl⟩
  obtain ⟨y0, hy0⟩ : ∃ y0, y0 = Y % 4294967296 := ⟨_, rfl⟩
  obtain ⟨v1, hv1⟩ : ∃ v1, v1 = V / 4294967296 := ⟨_, rfl⟩
  obtain ⟨v0, hv0⟩ : ∃ v0, v0 = V % 4294967296 := ⟨_, rfl⟩
  have hY : Y = y1 * 4294967296 + y0 := by omega
  have by1 : 2147483648 ≤ y1 := by omega
  have by2 : y1 < 4294967296 := by omega
  have by0 : y0 < 4294967296 := by omega
  have bv1 : v1 < 4294967296 := by omega
  have bv0 : v0 < 4294967296 := by omega
  have hU : (hi * 18446744073709551616 + lo) * 2 ^ s = (u * 4294967296 + v1) * 4294967296 + v0 := by rw [p3]; omega
  have hHl : H < 18446744073709551616 := by omega
  obtain ⟨qs, hqs⟩ : ∃ qs, u / y1 = qs := ⟨_, rfl⟩
  obtain ⟨rs, hrs⟩ : ∃ rs, u % y1 = rs := ⟨_, rfl⟩
  have hqi : QI u v1 y1 y0 qs rs := by rw [← hqs, ← hrs]; exact QI.start by1 by0 (by omega) bv1
  have hrs2 : rs < y1 := by rw [← hrs]; exact Nat.mod_lt _ (by omega)
  obtain ⟨ms, hms⟩ : ∃ ms, qs * y1 = ms := ⟨_, rfl⟩
  have hqm : ms + rs = u := by rw [← hms]; exact hqi.1
  have hq3 := hqi.2.2
  have f1 : IntKind.u64.wrap ((y : Int) * 2 ^ s) = (Y : Int) := wrapS _ _ _ (by rw [← hYs]; omega)
  have f2 : (Y : Int) / 4294967296 = (y1 : Int) := by omega
  have f3 : bits .and .u64 (Y : Int) 4294967295 = (y0 : Int) := by rw [maskN Y s3, hy0]
  have f4 : IntKind.u64.wrap ((hi : Int) * 2 ^ s) = (H : Int) := wrapS _ _ _ (by rw [← hH]; omega)
  have f5 : (lo : Int) / 2 ^ (64 - s) = (L : Int) := divS _ _ _ hL
  have f6 : bits .or .u64 (H : Int) (L : Int) = (u : Int) := orN hH p1 hu (by omega)
  have f7 : IntKind.u64.wrap ((lo : Int) * 2 ^ s) = (V : Int) := wrapS _ _ _ hV
  have f8 : (V : Int) / 4294967296 = (v1 : Int) := by omega
  have f9 : bits .and .u64 (V : Int) 4294967295 = (v0 : Int) := by rw [maskN V hVl, hv0]
  have f10 : IntKind.u64.wrap ((u : Int).tdiv (y1 : Int)) = (qs : Int) := wrapQ _ _ _ hqs (by omega)
  have f11 : IntKind.u64.wrap ((qs : Int) * (y1 : Int)) = (ms : Int) := wrapP _ _ _ hms (by omega)
  have f10' : IntKind.u64.wrap ((u : Int) / (y1 : Int)) = (qs : Int) := wrapQ' _ _ _ hqs (by omega)
  have f12 : IntKind.u64.wrap ((u : Int) - (ms : Int)) = (rs : Int) := wrapI _ _ (by omega)
  have HQI := Lib.hid hqi
  have HU := Lib.hid hU
  have HYS := Lib.hid hYs
  have HY := Lib.hid hY
  have hy1p : ((y1 : Int) == 0) = false := by rw [beq_eq_false_iff_ne]; omega
  have hy1z : ¬ (y1 : Int) = 0 := by omega
  clear c hs p1 p3 hYs hH hL hV hu hy1 hy0 hv1 hv0 hY hU hqs hrs hqi hms
  go_enter Try.func29, Try.ntmps29
  go_wp2_with fail
  refine Calls.mono HC.out ?_
  rintro e w2 ⟨rfl, rfl⟩
  go_wp2_with fail
  go_loopg [15, 16] (qs + 1) (fun k v15 v16 wr => ∃ q r : Nat, k = q + 1 ∧ v15 = .int .u64 (q : Int) ∧ v16 = .int .u64 (r : Int) ∧ w = wr ∧ r < 4294967296 ∧ QI u v1 y1 y0 q r)
  case atStart => exact ⟨qs, rs, rfl, rfl, rfl, rfl, by omega, HQI.out⟩
  case round =>
    obtain ⟨q, r, rfl, rfl, rfl, rfl, hr, hqi⟩ := hrel
    have huY : u < y1 * 4294967296 + y0 := by rw [← HY.out]; exact p2
    have hq31 := hqi.2.2
    by_cases hq : 4294967296 ≤ q
    · have a1 : decide ((4294967296 : Int) ≤ (q : Int)) = true := by simp; omega
      have a2 : decide (4294967296 ≤ q) = true := by simpa using hq
      · skip
        obtain ⟨j1, j2, j3⟩ := hqi.less huY bv1 (.inl hq)
        obtain ⟨qd, hqd⟩ : ∃ qd, qd = q - 1 := ⟨_, rfl⟩
        obtain ⟨rd, hrd⟩ : ∃ rd, rd = r + y1 := ⟨_, rfl⟩
        have b1 : IntKind.u64.wrap ((q : Int) - 1) = (qd : Int) := wrapI _ _ (by omega)
        have b2 : IntKind.u64.wrap ((r : Int) + (y1 : Int)) = (rd : Int) := wrapI _ _ (by omega)
        rw [← hqd] at j2 j3
        rw [← hrd] at j2
        have HJ := Lib.hid j2
        have HQD := Lib.hid hqd
        have HRD := Lib.hid hrd
        clear hqd hrd
        by_cases hb : 4294967296 ≤ rd
        · have b3 : decide ((4294967296 : Int) ≤ (rd : Int)) = true := by simp; omega
          have b4 : decide (4294967296 ≤ rd) = true := by simpa using hb
          clear j2 hqi
          obtain ⟨q1, rfl⟩ : ∃ q1 : Nat, q1 = qd := ⟨_, rfl⟩
          have hq1 : q1 = (u * 4294967296 + v1) / (y1 * 4294967296 + y0) := HJ.out.broke (by omega) by0 (by omega) hb
          obtain ⟨z0, z1⟩ := QI.rest (d := v1) huY hq1
          have hq1lt : q1 < 4294967296 := by rw [hq1]; exact QI.top huY bv1
          obtain ⟨r1, hr1⟩ : ∃ r1, r1 = (u * 4294967296 + v1) % (y1 * 4294967296 + y0) := ⟨_, rfl⟩
          rw [← hr1] at z0 z1
          have HR1 := Lib.hid (show r1 < y1 * 4294967296 + y0 ∧ q1 * Y + r1 = u * 4294967296 + v1 from ⟨z1, by rw [HY.out]; exact z0⟩)
          rw [← HY.out] at z0 z1
          obtain ⟨P1, hP1⟩ : ∃ P1, P1 = q1 * Y := ⟨_, rfl⟩
          rw [← hP1] at z0
          obtain ⟨t1, ht1⟩ : ∃ t1, t1 = u * 4294967296 % 18446744073709551616 := ⟨_, rfl⟩
          obtain ⟨t2, ht2⟩ : ∃ t2, t2 = (t1 + v1) % 18446744073709551616 := ⟨_, rfl⟩
          obtain ⟨t3, ht3⟩ : ∃ t3, t3 = P1 % 18446744073709551616 := ⟨_, rfl⟩
          obtain ⟨qs2, hqs2⟩ : ∃ qs2, r1 / y1 = qs2 := ⟨_, rfl⟩
          obtain ⟨rs2, hrs2'⟩ : ∃ rs2, r1 % y1 = rs2 := ⟨_, rfl⟩
          have hqi2 : QI r1 v0 y1 y0 qs2 rs2 := by rw [← hqs2, ← hrs2']; exact QI.start by1 by0 HR1.out.1 bv0
          have hrs22 : rs2 < y1 := by rw [← hrs2']; exact Nat.mod_lt _ (by omega)
          obtain ⟨ms2, hms2⟩ : ∃ ms2, qs2 * y1 = ms2 := ⟨_, rfl⟩
          have hqm2 : ms2 + rs2 = r1 := by rw [← hms2]; exact hqi2.1
          have hq32 := hqi2.2.2
          have k1 : IntKind.u64.wrap ((u : Int) * 4294967296) = (t1 : Int) := wrapI _ _ (by omega)
          have k2 : IntKind.u64.wrap ((t1 : Int) + (v1 : Int)) = (t2 : Int) := wrapI _ _ (by omega)
          have k3 : IntKind.u64.wrap ((q1 : Int) * (Y : Int)) = (t3 : Int) := wrapPM _ _ _ (by rw [← hP1, ht3])
          have k4 : IntKind.u64.wrap ((t2 : Int) - (t3 : Int)) = (r1 : Int) := wrapI _ _ (by omega)
          have k5 : IntKind.u64.wrap ((r1 : Int) / (y1 : Int)) = (qs2 : Int) := wrapQ' _ _ _ hqs2 (by omega)
          have k6 : IntKind.u64.wrap ((qs2 : Int) * (y1 : Int)) = (ms2 : Int) := wrapP _ _ _ hms2 (by omega)
          have k7 : IntKind.u64.wrap ((r1 : Int) - (ms2 : Int)) = (rs2 : Int) := wrapI _ _ (by omega)
          have HQ2 := Lib.hid hqi2
          have HT1 := Lib.hid z1
          clear z0 z1 hq1 hr1 hP1 ht1 ht2 ht3 hqs2 hrs2' hqi2 hms2
          go_wp2_with fail
          go_loopg [16, 18] (qs2 + 1) (fun k v16 v18 wr => ∃ q r : Nat, k = q + 1 ∧ v18 = .int .u64 (q : Int) ∧ v16 = .int .u64 (r : Int) ∧ w = wr ∧ r < 4294967296 ∧ QI r1 v0 y1 y0 q r)
          case atStart => exact ⟨qs2, rs2, rfl, rfl, rfl, rfl, by omega, HQ2.out⟩
          case round =>
            obtain ⟨q, r, rfl, rfl, rfl, rfl, hr, hqi⟩ := hrel
            have hq31 := hqi.2.2
            by_cases hq : 4294967296 ≤ q
            · have a1 : decide ((4294967296 : Int) ≤ (q : Int)) = true := by simp; omega
              have a2 : decide (4294967296 ≤ q) = true := by simpa using hq
              · skip
                obtain ⟨j1, j2, j3⟩ := hqi.less HR1.out.1 bv0 (.inl hq)
                obtain ⟨qd, hqd⟩ : ∃ qd, qd = q - 1 := ⟨_, rfl⟩
                obtain ⟨rd, hrd⟩ : ∃ rd, rd = r + y1 := ⟨_, rfl⟩
                have b1 : IntKind.u64.wrap ((q : Int) - 1) = (qd : Int) := wrapI _ _ (by omega)
                have b2 : IntKind.u64.wrap ((r : Int) + (y1 : Int)) = (rd : Int) := wrapI _ _ (by omega)
                rw [← hqd] at j2 j3
                rw [← hrd] at j2
                have HJ := Lib.hid j2
                have HQD := Lib.hid hqd
                have HRD := Lib.hid hrd
                clear hqd hrd
                by_cases hb : 4294967296 ≤ rd
                · have b3 : decide ((4294967296 : Int) ≤ (rd : Int)) = true := by simp; omega
                  have b4 : decide (4294967296 ≤ rd) = true := by simpa using hb
                  clear j2 hqi
                  have hq2 : qd = (r1 * 4294967296 + v0) / (y1 * 4294967296 + y0) := HJ.out.broke (by omega) by0 (by omega) hb
                  obtain ⟨z0, z1⟩ := QI.rest (d := v0) HR1.out.1 hq2
                  obtain ⟨g0, hg0⟩ : ∃ g0, g0 = (r1 * 4294967296 + v0) % (y1 * 4294967296 + y0) := ⟨_, rfl⟩
                  rw [← hg0, ← HY.out] at z0 z1
                  obtain ⟨d1, d2⟩ := div_two HYS.out HU.out HR1.out.2 z0 z1 (by omega)
                  obtain ⟨P2, hP2⟩ : ∃ P2, P2 = qd * Y := ⟨_, rfl⟩
                  rw [← hP2] at z0
                  have hq2lt : qd < 4294967296 := by rw [hq2]; exact QI.top HR1.out.1 bv0
                  obtain ⟨x1, hx1⟩ : ∃ x1, x1 = q1 * 4294967296 := ⟨_, rfl⟩
                  obtain ⟨x2, hx2⟩ : ∃ x2, x2 = x1 + qd := ⟨_, rfl⟩
                  obtain ⟨x3, hx3⟩ : ∃ x3, x3 = r1 * 4294967296 % 18446744073709551616 := ⟨_, rfl⟩
                  obtain ⟨x4, hx4⟩ : ∃ x4, x4 = (x3 + v0) % 18446744073709551616 := ⟨_, rfl⟩
                  obtain ⟨x5, hx5⟩ : ∃ x5, x5 = P2 % 18446744073709551616 := ⟨_, rfl⟩
                  obtain ⟨x6, hx6⟩ : ∃ x6, x6 = g0 / 2 ^ s := ⟨_, rfl⟩
                  have k1 : IntKind.u64.wrap ((q1 : Int) * 4294967296) = (x1 : Int) := wrapI _ _ (by omega)
                  have k2 : IntKind.u64.wrap ((x1 : Int) + (qd : Int)) = (x2 : Int) := wrapI _ _ (by omega)
                  have k3 : IntKind.u64.wrap ((r1 : Int) * 4294967296) = (x3 : Int) := wrapI _ _ (by omega)
                  have k4 : IntKind.u64.wrap ((x3 : Int) + (v0 : Int)) = (x4 : Int) := wrapI _ _ (by omega)
                  have k5 : IntKind.u64.wrap ((qd : Int) * (Y : Int)) = (x5 : Int) := wrapPM _ _ _ (by rw [← hP2, hx5])
                  have k6 : IntKind.u64.wrap ((x4 : Int) - (x5 : Int)) = (g0 : Int) := wrapI _ _ (by omega)
                  have k7 : (g0 : Int) / 2 ^ s = (x6 : Int) := divS _ _ _ hx6.symm
                  rw [← hx1, ← hx2] at d1
                  rw [← hx6] at d2
                  have D1 := Lib.hid d1
                  have D2 := Lib.hid d2
                  clear d1 d2 hx1 hx2 hx3 hx4 hx5 hx6 hP2 hg0 z0 z1 hq2
                  go_wp2_with fail
                  go_ret2
                  exact ⟨by rw [← D1.out, ← D2.out]; rfl, rfl⟩
                · have b3 : decide ((4294967296 : Int) ≤ (rd : Int)) = false := by simp; omega
                  have b4 : decide (4294967296 ≤ rd) = false := by simpa using hb
                  clear j2 hqi
                  go_wp2_with fail
                  go_roundg (q + 1 - 1)
                  case measure => omega
                  case rel => exact ⟨qd, rd, by have := HQD.out; omega, rfl, rfl, rfl, by omega, HJ.out⟩
            · have a1 : decide ((4294967296 : Int) ≤ (q : Int)) = false := by simp; omega
              have a2 : decide (4294967296 ≤ q) = false := by simpa using hq
              obtain ⟨p, hp⟩ : ∃ p, p = q * y0 := ⟨_, rfl⟩
              obtain ⟨x, hx⟩ : ∃ x, x = 4294967296 * r := ⟨_, rfl⟩
              obtain ⟨z, hz⟩ : ∃ z, z = x + v0 := ⟨_, rfl⟩
              have hpl : p < 18446744073709551616 := by
                have := Nat.mul_le_mul (show q ≤ 4294967295 by omega) (show y0 ≤ 4294967295 by omega)
                omega
              have c1 : IntKind.u64.wrap ((q : Int) * (y0 : Int)) = (p : Int) := wrapP _ _ _ hp.symm hpl
              have c2 : IntKind.u64.wrap (4294967296 * (r : Int)) = (x : Int) := wrapI _ _ (by omega)
              have c3 : IntKind.u64.wrap ((x : Int) + (v0 : Int)) = (z : Int) := wrapI _ _ (by omega)
              by_cases hc : z < p
              · have c4 : decide ((z : Int) < (p : Int)) = true := by simp; omega
                have c5 : decide (z < p) = true := by simpa using hc
                have hcc : 4294967296 * r + v0 < q * y0 := by rw [← hp]; omega
                clear hp hx hz
                obtain ⟨j1, j2, j3⟩ := hqi.less HR1.out.1 bv0 (.inr hcc)
                obtain ⟨qd, hqd⟩ : ∃ qd, qd = q - 1 := ⟨_, rfl⟩
                obtain ⟨rd, hrd⟩ : ∃ rd, rd = r + y1 := ⟨_, rfl⟩
                have b1 : IntKind.u64.wrap ((q : Int) - 1) = (qd : Int) := wrapI _ _ (by omega)
                have b2 : IntKind.u64.wrap ((r : Int) + (y1 : Int)) = (rd : Int) := wrapI _ _ (by omega)
                rw [← hqd] at j2 j3
                rw [← hrd] at j2
                have HJ := Lib.hid j2
                have HQD := Lib.hid hqd
                have HRD := Lib.hid hrd
                clear hqd hrd
                by_cases hb : 4294967296 ≤ rd
                · have b3 : decide ((4294967296 : Int) ≤ (rd : Int)) = true := by simp; omega
                  have b4 : decide (4294967296 ≤ rd) = true := by simpa using hb
                  clear j2 hqi
                  have hq2 : qd = (r1 * 4294967296 + v0) / (y1 * 4294967296 + y0) := HJ.out.broke (by omega) by0 (by omega) hb
                  obtain ⟨z0, z1⟩ := QI.rest (d := v0) HR1.out.1 hq2
                  obtain ⟨g0, hg0⟩ : ∃ g0, g0 = (r1 * 4294967296 + v0) % (y1 * 4294967296 + y0) := ⟨_, rfl⟩
                  rw [← hg0, ← HY.out] at z0 z1
                  obtain ⟨d1, d2⟩ := div_two HYS.out HU.out HR1.out.2 z0 z1 (by omega)
                  obtain ⟨P2, hP2⟩ : ∃ P2, P2 = qd * Y := ⟨_, rfl⟩
                  rw [← hP2] at z0
                  have hq2lt : qd < 4294967296 := by rw [hq2]; exact QI.top HR1.out.1 bv0
                  obtain ⟨x1, hx1⟩ : ∃ x1, x1 = q1 * 4294967296 := ⟨_, rfl⟩
                  obtain ⟨x2, hx2⟩ : ∃ x2, x2 = x1 + qd := ⟨_, rfl⟩
                  obtain ⟨x3, hx3⟩ : ∃ x3, x3 = r1 * 4294967296 % 18446744073709551616 := ⟨_, rfl⟩
                  obtain ⟨x4, hx4⟩ : ∃ x4, x4 = (x3 + v0) % 18446744073709551616 := ⟨_, rfl⟩
                  obtain ⟨x5, hx5⟩ : ∃ x5, x5 = P2 % 18446744073709551616 := ⟨_, rfl⟩
                  obtain ⟨x6, hx6⟩ : ∃ x6, x6 = g0 / 2 ^ s := ⟨_, rfl⟩
                  have k1 : IntKind.u64.wrap ((q1 : Int) * 4294967296) = (x1 : Int) := wrapI _ _ (by omega)
                  have k2 : IntKind.u64.wrap ((x1 : Int) + (qd : Int)) = (x2 : Int) := wrapI _ _ (by omega)
                  have k3 : IntKind.u64.wrap ((r1 : Int) * 4294967296) = (x3 : Int) := wrapI _ _ (by omega)
                  have k4 : IntKind.u64.wrap ((x3 : Int) + (v0 : Int)) = (x4 : Int) := wrapI _ _ (by omega)
                  have k5 : IntKind.u64.wrap ((qd : Int) * (Y : Int)) = (x5 : Int) := wrapPM _ _ _ (by rw [← hP2, hx5])
                  have k6 : IntKind.u64.wrap ((x4 : Int) - (x5 : Int)) = (g0 : Int) := wrapI _ _ (by omega)
                  have k7 : (g0 : Int) / 2 ^ s = (x6 : Int) := divS _ _ _ hx6.symm
                  rw [← hx1, ← hx2] at d1
                  rw [← hx6] at d2
                  have D1 := Lib.hid d1
                  have D2 := Lib.hid d2
                  clear d1 d2 hx1 hx2 hx3 hx4 hx5 hx6 hP2 hg0 z0 z1 hq2
                  go_wp2_with fail
                  go_ret2
                  exact ⟨by rw [← D1.out, ← D2.out]; rfl, rfl⟩
                · have b3 : decide ((4294967296 : Int) ≤ (rd : Int)) = false := by simp; omega
                  have b4 : decide (4294967296 ≤ rd) = false := by simpa using hb
                  clear j2 hqi
                  go_wp2_with fail
                  go_roundg (q + 1 - 1)
                  case measure => omega
                  case rel => exact ⟨qd, rd, by have := HQD.out; omega, rfl, rfl, rfl, by omega, HJ.out⟩
              · have c4 : decide ((z : Int) < (p : Int)) = false := by simp; omega
                have c5 : decide (z < p) = false := by simpa using hc
                have hcc : q * y0 ≤ 4294967296 * r + v0 := by rw [← hp]; omega
                have HJ := Lib.hid hqi
                have HCC := Lib.hid hcc
                clear hp hqi hcc hx hz
                · skip
                  have hq2 : q = (r1 * 4294967296 + v0) / (y1 * 4294967296 + y0) := HJ.out.found (by omega) HCC.out
                  obtain ⟨z0, z1⟩ := QI.rest (d := v0) HR1.out.1 hq2
                  obtain ⟨g0, hg0⟩ : ∃ g0, g0 = (r1 * 4294967296 + v0) % (y1 * 4294967296 + y0) := ⟨_, rfl⟩
                  rw [← hg0, ← HY.out] at z0 z1
                  obtain ⟨d1, d2⟩ := div_two HYS.out HU.out HR1.out.2 z0 z1 (by omega)
                  obtain ⟨P2, hP2⟩ : ∃ P2, P2 = q * Y := ⟨_, rfl⟩
                  rw [← hP2] at z0
                  have hq2lt : q < 4294967296 := by rw [hq2]; exact QI.top HR1.out.1 bv0
                  obtain ⟨x1, hx1⟩ : ∃ x1, x1 = q1 * 4294967296 := ⟨_, rfl⟩
                  obtain ⟨x2, hx2⟩ : ∃ x2, x2 = x1 + q := ⟨_, rfl⟩
                  obtain ⟨x3, hx3⟩ : ∃ x3, x3 = r1 * 4294967296 % 18446744073709551616 := ⟨_, rfl⟩
                  obtain ⟨x4, hx4⟩ : ∃ x4, x4 = (x3 + v0) % 18446744073709551616 := ⟨_, rfl⟩
                  obtain ⟨x5, hx5⟩ : ∃ x5, x5 = P2 % 18446744073709551616 := ⟨_, rfl⟩
                  obtain ⟨x6, hx6⟩ : ∃ x6, x6 = g0 / 2 ^ s := ⟨_, rfl⟩
                  have k1 : IntKind.u64.wrap ((q1 : Int) * 4294967296) = (x1 : Int) := wrapI _ _ (by omega)
                  have k2 : IntKind.u64.wrap ((x1 : Int) + (q : Int)) = (x2 : Int) := wrapI _ _ (by omega)
                  have k3 : IntKind.u64.wrap ((r1 : Int) * 4294967296) = (x3 : Int) := wrapI _ _ (by omega)
                  have k4 : IntKind.u64.wrap ((x3 : Int) + (v0 : Int)) = (x4 : Int) := wrapI _ _ (by omega)
                  have k5 : IntKind.u64.wrap ((q : Int) * (Y : Int)) = (x5 : Int) := wrapPM _ _ _ (by rw [← hP2, hx5])
                  have k6 : IntKind.u64.wrap ((x4 : Int) - (x5 : Int)) = (g0 : Int) := wrapI _ _ (by omega)
                  have k7 : (g0 : Int) / 2 ^ s = (x6 : Int) := divS _ _ _ hx6.symm
                  rw [← hx1, ← hx2] at d1
                  rw [← hx6] at d2
                  have D1 := Lib.hid d1
                  have D2 := Lib.hid d2
                  clear d1 d2 hx1 hx2 hx3 hx4 hx5 hx6 hP2 hg0 z0 z1 hq2
                  go_wp2_with fail
                  go_ret2
                  exact ⟨by rw [← D1.out, ← D2.out]; rfl, rfl⟩
        · have b3 : decide ((4294967296 : Int) ≤ (rd : Int)) = false := by simp; omega
          have b4 : decide (4294967296 ≤ rd) = false := by simpa using hb
          clear j2 hqi
          go_wp2_with fail
          go_roundg (q + 1 - 1)
          case measure => omega
          case rel => exact ⟨qd, rd, by have := HQD.out; omega, rfl, rfl, rfl, by omega, HJ.out⟩
    · have a1 : decide ((4294967296 : Int) ≤ (q : Int)) = false := by simp; omega
      have a2 : decide (4294967296 ≤ q) = false := by simpa using hq
      obtain ⟨p, hp⟩ : ∃ p, p = q * y0 := ⟨_, rfl⟩
      obtain ⟨x, hx⟩ : ∃ x, x = 4294967296 * r := ⟨_, rfl⟩
      obtain ⟨z, hz⟩ : ∃ z, z = x + v1 := ⟨_, rfl⟩
      have hpl : p < 18446744073709551616 := by
        have := Nat.mul_le_mul (show q ≤ 4294967295 by omega) (show y0 ≤ 4294967295 by omega)
        omega
      have c1 : IntKind.u64.wrap ((q : Int) * (y0 : Int)) = (p : Int) := wrapP _ _ _ hp.symm hpl
      have c2 : IntKind.u64.wrap (4294967296 * (r : Int)) = (x : Int) := wrapI _ _ (by omega)
      have c3 : IntKind.u64.wrap ((x : Int) + (v1 : Int)) = (z : Int) := wrapI _ _ (by omega)
      by_cases hc : z < p
      · have c4 : decide ((z : Int) < (p : Int)) = true := by simp; omega
        have c5 : decide (z < p) = true := by simpa using hc
        have hcc : 4294967296 * r + v1 < q * y0 := by rw [← hp]; omega
        clear hp hx hz
        obtain ⟨j1, j2, j3⟩ := hqi.less huY bv1 (.inr hcc)
        obtain ⟨qd, hqd⟩ : ∃ qd, qd = q - 1 := ⟨_, rfl⟩
        obtain ⟨rd, hrd⟩ : ∃ rd, rd = r + y1 := ⟨_, rfl⟩
        have b1 : IntKind.u64.wrap ((q : Int) - 1) = (qd : Int) := wrapI _ _ (by omega)
        have b2 : IntKind.u64.wrap ((r : Int) + (y1 : Int)) = (rd : Int) := wrapI _ _ (by omega)
        rw [← hqd] at j2 j3
        rw [← hrd] at j2
        have HJ := Lib.hid j2
        have HQD := Lib.hid hqd
        have HRD := Lib.hid hrd
        clear hqd hrd
        by_cases hb : 4294967296 ≤ rd
        · have b3 : decide ((4294967296 : Int) ≤ (rd : Int)) = true := by simp; omega
          have b4 : decide (4294967296 ≤ rd) = true := by simpa using hb
          clear j2 hqi
          obtain ⟨q1, rfl⟩ : ∃ q1 : Nat, q1 = qd := ⟨_, rfl⟩
          have hq1 : q1 = (u * 4294967296 + v1) / (y1 * 4294967296 + y0) := HJ.out.broke (by omega) by0 (by omega) hb
          obtain ⟨z0, z1⟩ := QI.rest (d := v1) huY hq1
          have hq1lt : q1 < 4294967296 := by rw [hq1]; exact QI.top huY bv1
          obtain ⟨r1, hr1⟩ : ∃ r1, r1 = (u * 4294967296 + v1) % (y1 * 4294967296 + y0) := ⟨_, rfl⟩
          rw [← hr1] at z0 z1
          have HR1 := Lib.hid (show r1 < y1 * 4294967296 + y0 ∧ q1 * Y + r1 = u * 4294967296 + v1 from ⟨z1, by rw [HY.out]; exact z0⟩)
          rw [← HY.out] at z0 z1
          obtain ⟨P1, hP1⟩ : ∃ P1, P1 = q1 * Y := ⟨_, rfl⟩
          rw [← hP1] at z0
          obtain ⟨t1, ht1⟩ : ∃ t1, t1 = u * 4294967296 % 18446744073709551616 := ⟨_, rfl⟩
          obtain ⟨t2, ht2⟩ : ∃ t2, t2 = (t1 + v1) % 18446744073709551616 := ⟨_, rfl⟩
          obtain ⟨t3, ht3⟩ : ∃ t3, t3 = P1 % 18446744073709551616 := ⟨_, rfl⟩
          obtain ⟨qs2, hqs2⟩ : ∃ qs2, r1 / y1 = qs2 := ⟨_, rfl⟩
          obtain ⟨rs2, hrs2'⟩ : ∃ rs2, r1 % y1 = rs2 := ⟨_, rfl⟩
          have hqi2 : QI r1 v0 y1 y0 qs2 rs2 := by rw [← hqs2, ← hrs2']; exact QI.start by1 by0 HR1.out.1 bv0
          have hrs22 : rs2 < y1 := by rw [← hrs2']; exact Nat.mod_lt _ (by omega)
          obtain ⟨ms2, hms2⟩ : ∃ ms2, qs2 * y1 = ms2 := ⟨_, rfl⟩
          have hqm2 : ms2 + rs2 = r1 := by rw [← hms2]; exact hqi2.1
          have hq32 := hqi2.2.2
          have k1 : IntKind.u64.wrap ((u : Int) * 4294967296) = (t1 : Int) := wrapI _ _ (by omega)
          have k2 : IntKind.u64.wrap ((t1 : Int) + (v1 : Int)) = (t2 : Int) := wrapI _ _ (by omega)
          have k3 : IntKind.u64.wrap ((q1 : Int) * (Y : Int)) = (t3 : Int) := wrapPM _ _ _ (by rw [← hP1, ht3])
          have k4 : IntKind.u64.wrap ((t2 : Int) - (t3 : Int)) = (r1 : Int) := wrapI _ _ (by omega)
          have k5 : IntKind.u64.wrap ((r1 : Int) / (y1 : Int)) = (qs2 : Int) := wrapQ' _ _ _ hqs2 (by omega)
          have k6 : IntKind.u64.wrap ((qs2 : Int) * (y1 : Int)) = (ms2 : Int) := wrapP _ _ _ hms2 (by omega)
          have k7 : IntKind.u64.wrap ((r1 : Int) - (ms2 : Int)) = (rs2 : Int) := wrapI _ _ (by omega)
          have HQ2 := Lib.hid hqi2
          have HT1 := Lib.hid z1
          clear z0 z1 hq1 hr1 hP1 ht1 ht2 ht3 hqs2 hrs2' hqi2 hms2
          go_wp2_with fail
          go_loopg [16, 18] (qs2 + 1) (fun k v16 v18 wr => ∃ q r : Nat, k = q + 1 ∧ v18 = .int .u64 (q : Int) ∧ v16 = .int .u64 (r : Int) ∧ w = wr ∧ r < 4294967296 ∧ QI r1 v0 y1 y0 q r)
          case atStart => exact ⟨qs2, rs2, rfl, rfl, rfl, rfl, by omega, HQ2.out⟩
          case round =>
            obtain ⟨q, r, rfl, rfl, rfl, rfl, hr, hqi⟩ := hrel
            have hq31 := hqi.2.2
            by_cases hq : 4294967296 ≤ q
            · have a1 : decide ((4294967296 : Int) ≤ (q : Int)) = true := by simp; omega
              have a2 : decide (4294967296 ≤ q) = true := by simpa using hq
              · skip
                obtain ⟨j1, j2, j3⟩ := hqi.less HR1.out.1 bv0 (.inl hq)
                obtain ⟨qd, hqd⟩ : ∃ qd, qd = q - 1 := ⟨_, rfl⟩
                obtain ⟨rd, hrd⟩ : ∃ rd, rd = r + y1 := ⟨_, rfl⟩
                have b1 : IntKind.u64.wrap ((q : Int) - 1) = (qd : Int) := wrapI _ _ (by omega)
                have b2 : IntKind.u64.wrap ((r : Int) + (y1 : Int)) = (rd : Int) := wrapI _ _ (by omega)
                rw [← hqd] at j2 j3
                rw [← hrd] at j2
                have HJ := Lib.hid j2
                have HQD := Lib.hid hqd
                have HRD := Lib.hid hrd
                clear hqd hrd
                by_cases hb : 4294967296 ≤ rd
                · have b3 : decide ((4294967296 : Int) ≤ (rd : Int)) = true := by simp; omega
                  have b4 : decide (4294967296 ≤ rd) = true := by simpa using hb
                  clear j2 hqi
                  have hq2 : qd = (r1 * 4294967296 + v0) / (y1 * 4294967296 + y0) := HJ.out.broke (by omega) by0 (by omega) hb
                  obtain ⟨z0, z1⟩ := QI.rest (d := v0) HR1.out.1 hq2
                  obtain ⟨g0, hg0⟩ : ∃ g0, g0 = (r1 * 4294967296 + v0) % (y1 * 4294967296 + y0) := ⟨_, rfl⟩
                  rw [← hg0, ← HY.out] at z0 z1
                  obtain ⟨d1, d2⟩ := div_two HYS.out HU.out HR1.out.2 z0 z1 (by omega)
                  obtain ⟨P2, hP2⟩ : ∃ P2, P2 = qd * Y := ⟨_, rfl⟩
                  rw [← hP2] at z0
                  have hq2lt : qd < 4294967296 := by rw [hq2]; exact QI.top HR1.out.1 bv0
                  obtain ⟨x1, hx1⟩ : ∃ x1, x1 = q1 * 4294967296 := ⟨_, rfl⟩
                  obtain ⟨x2, hx2⟩ : ∃ x2, x2 = x1 + qd := ⟨_, rfl⟩
                  obtain ⟨x3, hx3⟩ : ∃ x3, x3 = r1 * 4294967296 % 18446744073709551616 := ⟨_, rfl⟩
                  obtain ⟨x4, hx4⟩ : ∃ x4, x4 = (x3 + v0) % 18446744073709551616 := ⟨_, rfl⟩
                  obtain ⟨x5, hx5⟩ : ∃ x5, x5 = P2 % 18446744073709551616 := ⟨_, rfl⟩
                  obtain ⟨x6, hx6⟩ : ∃ x6, x6 = g0 / 2 ^ s := ⟨_, rfl⟩
                  have k1 : IntKind.u64.wrap ((q1 : Int) * 4294967296) = (x1 : Int) := wrapI _ _ (by omega)
                  have k2 : IntKind.u64.wrap ((x1 : Int) + (qd : Int)) = (x2 : Int) := wrapI _ _ (by omega)
                  have k3 : IntKind.u64.wrap ((r1 : Int) * 4294967296) = (x3 : Int) := wrapI _ _ (by omega)
                  have k4 : IntKind.u64.wrap ((x3 : Int) + (v0 : Int)) = (x4 : Int) := wrapI _ _ (by omega)
                  have k5 : IntKind.u64.wrap ((qd : Int) * (Y : Int)) = (x5 : Int) := wrapPM _ _ _ (by rw [← hP2, hx5])
                  have k6 : IntKind.u64.wrap ((x4 : Int) - (x5 : Int)) = (g0 : Int) := wrapI _ _ (by omega)
                  have k7 : (g0 : Int) / 2 ^ s = (x6 : Int) := divS _ _ _ hx6.symm
                  rw [← hx1, ← hx2] at d1
                  rw [← hx6] at d2
                  have D1 := Lib.hid d1
                  have D2 := Lib.hid d2
                  clear d1 d2 hx1 hx2 hx3 hx4 hx5 hx6 hP2 hg0 z0 z1 hq2
                  go_wp2_with fail
                  go_ret2
                  exact ⟨by rw [← D1.out, ← D2.out]; rfl, rfl⟩
                · have b3 : decide ((4294967296 : Int) ≤ (rd : Int)) = false := by simp; omega
                  have b4 : decide (4294967296 ≤ rd) = false := by simpa using hb
                  clear j2 hqi
                  go_wp2_with fail
                  go_roundg (q + 1 - 1)
                  case measure => omega
                  case rel => exact ⟨qd, rd, by have := HQD.out; omega, rfl, rfl, rfl, by omega, HJ.out⟩
            · have a1 : decide ((4294967296 : Int) ≤ (q : Int)) = false := by simp; omega
              have a2 : decide (4294967296 ≤ q) = false := by simpa using hq
              obtain ⟨p, hp⟩ : ∃ p, p = q * y0 := ⟨_, rfl⟩
              obtain ⟨x, hx⟩ : ∃ x, x = 4294967296 * r := ⟨_, rfl⟩
              obtain ⟨z, hz⟩ : ∃ z, z = x + v0 := ⟨_, rfl⟩
              have hpl : p < 18446744073709551616 := by
                have := Nat.mul_le_mul (show q ≤ 4294967295 by omega) (show y0 ≤ 4294967295 by omega)
                omega
              have c1 : IntKind.u64.wrap ((q : Int) * (y0 : Int)) = (p : Int) := wrapP _ _ _ hp.symm hpl
              have c2 : IntKind.u64.wrap (4294967296 * (r : Int)) = (x : Int) := wrapI _ _ (by omega)
              have c3 : IntKind.u64.wrap ((x : Int) + (v0 : Int)) = (z : Int) := wrapI _ _ (by omega)
              by_cases hc : z < p
              · have c4 : decide ((z : Int) < (p : Int)) = true := by simp; omega
                have c5 : decide (z < p) = true := by simpa using hc
                have hcc : 4294967296 * r + v0 < q * y0 := by rw [← hp]; omega
                clear hp hx hz
                obtain ⟨j1, j2, j3⟩ := hqi.less HR1.out.1 bv0 (.inr hcc)
                obtain ⟨qd, hqd⟩ : ∃ qd, qd = q - 1 := ⟨_, rfl⟩
                obtain ⟨rd, hrd⟩ : ∃ rd, rd = r + y1 := ⟨_, rfl⟩
                have b1 : IntKind.u64.wrap ((q : Int) - 1) = (qd : Int) := wrapI _ _ (by omega)
                have b2 : IntKind.u64.wrap ((r : Int) + (y1 : Int)) = (rd : Int) := wrapI _ _ (by omega)
                rw [← hqd] at j2 j3
                rw [← hrd] at j2
                have HJ := Lib.hid j2
                have HQD := Lib.hid hqd
                have HRD := Lib.hid hrd
                clear hqd hrd
                by_cases hb : 4294967296 ≤ rd
                · have b3 : decide ((4294967296 : Int) ≤ (rd : Int)) = true := by simp; omega
                  have b4 : decide (4294967296 ≤ rd) = true := by simpa using hb
                  clear j2 hqi
                  have hq2 : qd = (r1 * 4294967296 + v0) / (y1 * 4294967296 + y0) := HJ.out.broke (by omega) by0 (by omega) hb
                  obtain ⟨z0, z1⟩ := QI.rest (d := v0) HR1.out.1 hq2
                  obtain ⟨g0, hg0⟩ : ∃ g0, g0 = (r1 * 4294967296 + v0) % (y1 * 4294967296 + y0) := ⟨_, rfl⟩
                  rw [← hg0, ← HY.out] at z0 z1
                  obtain ⟨d1, d2⟩ := div_two HYS.out HU.out HR1.out.2 z0 z1 (by omega)
                  obtain ⟨P2, hP2⟩ : ∃ P2, P2 = qd * Y := ⟨_, rfl⟩
                  rw [← hP2] at z0
                  have hq2lt : qd < 4294967296 := by rw [hq2]; exact QI.top HR1.out.1 bv0
                  obtain ⟨x1, hx1⟩ : ∃ x1, x1 = q1 * 4294967296 := ⟨_, rfl⟩
                  obtain ⟨x2, hx2⟩ : ∃ x2, x2 = x1 + qd := ⟨_, rfl⟩
                  obtain ⟨x3, hx3⟩ : ∃ x3, x3 = r1 * 4294967296 % 18446744073709551616 := ⟨_, rfl⟩
                  obtain ⟨x4, hx4⟩ : ∃ x4, x4 = (x3 + v0) % 18446744073709551616 := ⟨_, rfl⟩
                  obtain ⟨x5, hx5⟩ : ∃ x5, x5 = P2 % 18446744073709551616 := ⟨_, rfl⟩
                  obtain ⟨x6, hx6⟩ : ∃ x6, x6 = g0 / 2 ^ s := ⟨_, rfl⟩
                  have k1 : IntKind.u64.wrap ((q1 : Int) * 4294967296) = (x1 : Int) := wrapI _ _ (by omega)
                  have k2 : IntKind.u64.wrap ((x1 : Int) + (qd : Int)) = (x2 : Int) := wrapI _ _ (by omega)
                  have k3 : IntKind.u64.wrap ((r1 : Int) * 4294967296) = (x3 : Int) := wrapI _ _ (by omega)
                  have k4 : IntKind.u64.wrap ((x3 : Int) + (v0 : Int)) = (x4 : Int) := wrapI _ _ (by omega)
                  have k5 : IntKind.u64.wrap ((qd : Int) * (Y : Int)) = (x5 : Int) := wrapPM _ _ _ (by rw [← hP2, hx5])
                  have k6 : IntKind.u64.wrap ((x4 : Int) - (x5 : Int)) = (g0 : Int) := wrapI _ _ (by omega)
                  have k7 : (g0 : Int) / 2 ^ s = (x6 : Int) := divS _ _ _ hx6.symm
                  rw [← hx1, ← hx2] at d1
                  rw [← hx6] at d2
                  have D1 := Lib.hid d1
                  have D2 := Lib.hid d2
                  clear d1 d2 hx1 hx2 hx3 hx4 hx5 hx6 hP2 hg0 z0 z1 hq2
                  go_wp2_with fail
                  go_ret2
                  exact ⟨by rw [← D1.out, ← D2.out]; rfl, rfl⟩
                · have b3 : decide ((4294967296 : Int) ≤ (rd : Int)) = false := by simp; omega
                  have b4 : decide (4294967296 ≤ rd) = false := by simpa using hb
                  clear j2 hqi
                  go_wp2_with fail
                  go_roundg (q + 1 - 1)
                  case measure => omega
                  case rel => exact ⟨qd, rd, by have := HQD.out; omega, rfl, rfl, rfl, by omega, HJ.out⟩
              · have c4 : decide ((z : Int) < (p : Int)) = false := by simp; omega
                have c5 : decide (z < p) = false := by simpa using hc
                have hcc : q * y0 ≤ 4294967296 * r + v0 := by rw [← hp]; omega
                have HJ := Lib.hid hqi
                have HCC := Lib.hid hcc
                clear hp hqi hcc hx hz
                · skip
                  have hq2 : q = (r1 * 4294967296 + v0) / (y1 * 4294967296 + y0) := HJ.out.found (by omega) HCC.out
                  obtain ⟨z0, z1⟩ := QI.rest (d := v0) HR1.out.1 hq2
                  obtain ⟨g0, hg0⟩ : ∃ g0, g0 = (r1 * 4294967296 + v0) % (y1 * 4294967296 + y0) := ⟨_, rfl⟩
                  rw [← hg0, ← HY.out] at z0 z1
                  obtain ⟨d1, d2⟩ := div_two HYS.out HU.out HR1.out.2 z0 z1 (by omega)
                  obtain ⟨P2, hP2⟩ : ∃ P2, P2 = q * Y := ⟨_, rfl⟩
                  rw [← hP2] at z0
                  have hq2lt : q < 4294967296 := by rw [hq2]; exact QI.top HR1.out.1 bv0
                  obtain ⟨x1, hx1⟩ : ∃ x1, x1 = q1 * 4294967296 := ⟨_, rfl⟩
                  obtain ⟨x2, hx2⟩ : ∃ x2, x2 = x1 + q := ⟨_, rfl⟩
                  obtain ⟨x3, hx3⟩ : ∃ x3, x3 = r1 * 4294967296 % 18446744073709551616 := ⟨_, rfl⟩
                  obtain ⟨x4, hx4⟩ : ∃ x4, x4 = (x3 + v0) % 18446744073709551616 := ⟨_, rfl⟩
                  obtain ⟨x5, hx5⟩ : ∃ x5, x5 = P2 % 18446744073709551616 := ⟨_, rfl⟩
                  obtain ⟨x6, hx6⟩ : ∃ x6, x6 = g0 / 2 ^ s := ⟨_, rfl⟩
                  have k1 : IntKind.u64.wrap ((q1 : Int) * 4294967296) = (x1 : Int) := wrapI _ _ (by omega)
                  have k2 : IntKind.u64.wrap ((x1 : Int) + (q : Int)) = (x2 : Int) := wrapI _ _ (by omega)
                  have k3 : IntKind.u64.wrap ((r1 : Int) * 4294967296) = (x3 : Int) := wrapI _ _ (by omega)
                  have k4 : IntKind.u64.wrap ((x3 : Int) + (v0 : Int)) = (x4 : Int) := wrapI _ _ (by omega)
                  have k5 : IntKind.u64.wrap ((q : Int) * (Y : Int)) = (x5 : Int) := wrapPM _ _ _ (by rw [← hP2, hx5])
                  have k6 : IntKind.u64.wrap ((x4 : Int) - (x5 : Int)) = (g0 : Int) := wrapI _ _ (by omega)
                  have k7 : (g0 : Int) / 2 ^ s = (x6 : Int) := divS _ _ _ hx6.symm
                  rw [← hx1, ← hx2] at d1
                  rw [← hx6] at d2
                  have D1 := Lib.hid d1
                  have D2 := Lib.hid d2
                  clear d1 d2 hx1 hx2 hx3 hx4 hx5 hx6 hP2 hg0 z0 z1 hq2
                  go_wp2_with fail
                  go_ret2
                  exact ⟨by rw [← D1.out, ← D2.out]; rfl, rfl⟩
        · have b3 : decide ((4294967296 : Int) ≤ (rd : Int)) = false := by simp; omega
          have b4 : decide (4294967296 ≤ rd) = false := by simpa using hb
          clear j2 hqi
          go_wp2_with fail
          go_roundg (q + 1 - 1)
          case measure => omega
          case rel => exact ⟨qd, rd, by have := HQD.out; omega, rfl, rfl, rfl, by omega, HJ.out⟩
      · have c4 : decide ((z : Int) < (p : Int)) = false := by simp; omega
        have c5 : decide (z < p) = false := by simpa using hc
        have hcc : q * y0 ≤ 4294967296 * r + v1 := by rw [← hp]; omega
        have HJ := Lib.hid hqi
        have HCC := Lib.hid hcc
        clear hp hqi hcc hx hz
        · skip
          obtain ⟨q1, rfl⟩ : ∃ q1 : Nat, q1 = q := ⟨_, rfl⟩
          have hq1 : q1 = (u * 4294967296 + v1) / (y1 * 4294967296 + y0) := HJ.out.found (by omega) HCC.out
          obtain ⟨z0, z1⟩ := QI.rest (d := v1) huY hq1
          have hq1lt : q1 < 4294967296 := by rw [hq1]; exact QI.top huY bv1
          obtain ⟨r1, hr1⟩ : ∃ r1, r1 = (u * 4294967296 + v1) % (y1 * 4294967296 + y0) := ⟨_, rfl⟩
          rw [← hr1] at z0 z1
          have HR1 := Lib.hid (show r1 < y1 * 4294967296 + y0 ∧ q1 * Y + r1 = u * 4294967296 + v1 from ⟨z1, by rw [HY.out]; exact z0⟩)
          rw [← HY.out] at z0 z1
          obtain ⟨P1, hP1⟩ : ∃ P1, P1 = q1 * Y := ⟨_, rfl⟩
          rw [← hP1] at z0
          obtain ⟨t1, ht1⟩ : ∃ t1, t1 = u * 4294967296 % 18446744073709551616 := ⟨_, rfl⟩
          obtain ⟨t2, ht2⟩ : ∃ t2, t2 = (t1 + v1) % 18446744073709551616 := ⟨_, rfl⟩
          obtain ⟨t3, ht3⟩ : ∃ t3, t3 = P1 % 18446744073709551616 := ⟨_, rfl⟩
          obtain ⟨qs2, hqs2⟩ : ∃ qs2, r1 / y1 = qs2 := ⟨_, rfl⟩
          obtain ⟨rs2, hrs2'⟩ : ∃ rs2, r1 % y1 = rs2 := ⟨_, rfl⟩
          have hqi2 : QI r1 v0 y1 y0 qs2 rs2 := by rw [← hqs2, ← hrs2']; exact QI.start by1 by0 HR1.out.1 bv0
          have hrs22 : rs2 < y1 := by rw [← hrs2']; exact Nat.mod_lt _ (by omega)
          obtain ⟨ms2, hms2⟩ : ∃ ms2, qs2 * y1 = ms2 := ⟨_, rfl⟩
          have hqm2 : ms2 + rs2 = r1 := by rw [← hms2]; exact hqi2.1
          have hq32 := hqi2.2.2
          have k1 : IntKind.u64.wrap ((u : Int) * 4294967296) = (t1 : Int) := wrapI _ _ (by omega)
          have k2 : IntKind.u64.wrap ((t1 : Int) + (v1 : Int)) = (t2 : Int) := wrapI _ _ (by omega)
          have k3 : IntKind.u64.wrap ((q1 : Int) * (Y : Int)) = (t3 : Int) := wrapPM _ _ _ (by rw [← hP1, ht3])
          have k4 : IntKind.u64.wrap ((t2 : Int) - (t3 : Int)) = (r1 : Int) := wrapI _ _ (by omega)
          have k5 : IntKind.u64.wrap ((r1 : Int) / (y1 : Int)) = (qs2 : Int) := wrapQ' _ _ _ hqs2 (by omega)
          have k6 : IntKind.u64.wrap ((qs2 : Int) * (y1 : Int)) = (ms2 : Int) := wrapP _ _ _ hms2 (by omega)
          have k7 : IntKind.u64.wrap ((r1 : Int) - (ms2 : Int)) = (rs2 : Int) := wrapI _ _ (by omega)
          have HQ2 := Lib.hid hqi2
          have HT1 := Lib.hid z1
          clear z0 z1 hq1 hr1 hP1 ht1 ht2 ht3 hqs2 hrs2' hqi2 hms2
          go_wp2_with fail
          go_loopg [16, 18] (qs2 + 1) (fun k v16 v18 wr => ∃ q r : Nat, k = q + 1 ∧ v18 = .int .u64 (q : Int) ∧ v16 = .int .u64 (r : Int) ∧ w = wr ∧ r < 4294967296 ∧ QI r1 v0 y1 y0 q r)
          case atStart => exact ⟨qs2, rs2, rfl, rfl, rfl, rfl, by omega, HQ2.out⟩
          case round =>
            obtain ⟨q, r, rfl, rfl, rfl, rfl, hr, hqi⟩ := hrel
            have hq31 := hqi.2.2
            by_cases hq : 4294967296 ≤ q
            · have a1 : decide ((4294967296 : Int) ≤ (q : Int)) = true := by simp; omega
              have a2 : decide (4294967296 ≤ q) = true := by simpa using hq
              · skip
                obtain ⟨j1, j2, j3⟩ := hqi.less HR1.out.1 bv0 (.inl hq)
                obtain ⟨qd, hqd⟩ : ∃ qd, qd = q - 1 := ⟨_, rfl⟩
                obtain ⟨rd, hrd⟩ : ∃ rd, rd = r + y1 := ⟨_, rfl⟩
                have b1 : IntKind.u64.wrap ((q : Int) - 1) = (qd : Int) := wrapI _ _ (by omega)
                have b2 : IntKind.u64.wrap ((r : Int) + (y1 : Int)) = (rd : Int) := wrapI _ _ (by omega)
                rw [← hqd] at j2 j3
                rw [← hrd] at j2
                have HJ := Lib.hid j2
                have HQD := Lib.hid hqd
                have HRD := Lib.hid hrd
                clear hqd hrd
                by_cases hb : 4294967296 ≤ rd
                · have b3 : decide ((4294967296 : Int) ≤ (rd : Int)) = true := by simp; omega
                  have b4 : decide (4294967296 ≤ rd) = true := by simpa using hb
                  clear j2 hqi
                  have hq2 : qd = (r1 * 4294967296 + v0) / (y1 * 4294967296 + y0) := HJ.out.broke (by omega) by0 (by omega) hb
                  obtain ⟨z0, z1⟩ := QI.rest (d := v0) HR1.out.1 hq2
                  obtain ⟨g0, hg0⟩ : ∃ g0, g0 = (r1 * 4294967296 + v0) % (y1 * 4294967296 + y0) := ⟨_, rfl⟩
                  rw [← hg0, ← HY.out] at z0 z1
                  obtain ⟨d1, d2⟩ := div_two HYS.out HU.out HR1.out.2 z0 z1 (by omega)
                  obtain ⟨P2, hP2⟩ : ∃ P2, P2 = qd * Y := ⟨_, rfl⟩
                  rw [← hP2] at z0
                  have hq2lt : qd < 4294967296 := by rw [hq2]; exact QI.top HR1.out.1 bv0
                  obtain ⟨x1, hx1⟩ : ∃ x1, x1 = q1 * 4294967296 := ⟨_, rfl⟩
                  obtain ⟨x2, hx2⟩ : ∃ x2, x2 = x1 + qd := ⟨_, rfl⟩
                  obtain ⟨x3, hx3⟩ : ∃ x3, x3 = r1 * 4294967296 % 18446744073709551616 := ⟨_, rfl⟩
                  obtain ⟨x4, hx4⟩ : ∃ x4, x4 = (x3 + v0) % 18446744073709551616 := ⟨_, rfl⟩
                  obtain ⟨x5, hx5⟩ : ∃ x5, x5 = P2 % 18446744073709551616 := ⟨_, rfl⟩
                  obtain ⟨x6, hx6⟩ : ∃ x6, x6 = g0 / 2 ^ s := ⟨_, rfl⟩
                  have k1 : IntKind.u64.wrap ((q1 : Int) * 4294967296) = (x1 : Int) := wrapI _ _ (by omega)
                  have k2 : IntKind.u64.wrap ((x1 : Int) + (qd : Int)) = (x2 : Int) := wrapI _ _ (by omega)
                  have k3 : IntKind.u64.wrap ((r1 : Int) * 4294967296) = (x3 : Int) := wrapI _ _ (by omega)
                  have k4 : IntKind.u64.wrap ((x3 : Int) + (v0 : Int)) = (x4 : Int) := wrapI _ _ (by omega)
                  have k5 : IntKind.u64.wrap ((qd : Int) * (Y : Int)) = (x5 : Int) := wrapPM _ _ _ (by rw [← hP2, hx5])
                  have k6 : IntKind.u64.wrap ((x4 : Int) - (x5 : Int)) = (g0 : Int) := wrapI _ _ (by omega)
                  have k7 : (g0 : Int) / 2 ^ s = (x6 : Int) := divS _ _ _ hx6.symm
                  rw [← hx1, ← hx2] at d1
                  rw [← hx6] at d2
                  have D1 := Lib.hid d1
                  have D2 := Lib.hid d2
                  clear d1 d2 hx1 hx2 hx3 hx4 hx5 hx6 hP2 hg0 z0 z1 hq2
                  go_wp2_with fail
                  go_ret2
                  exact ⟨by rw [← D1.out, ← D2.out]; rfl, rfl⟩
                · have b3 : decide ((4294967296 : Int) ≤ (rd : Int)) = false := by simp; omega
                  have b4 : decide (4294967296 ≤ rd) = false := by simpa using hb
                  clear j2 hqi
                  go_wp2_with fail
                  go_roundg (q + 1 - 1)
                  case measure => omega
                  case rel => exact ⟨qd, rd, by have := HQD.out; omega, rfl, rfl, rfl, by omega, HJ.out⟩
            · have a1 : decide ((4294967296 : Int) ≤ (q : Int)) = false := by simp; omega
              have a2 : decide (4294967296 ≤ q) = false := by simpa using hq
              obtain ⟨p, hp⟩ : ∃ p, p = q * y0 := ⟨_, rfl⟩
              obtain ⟨x, hx⟩ : ∃ x, x = 4294967296 * r := ⟨_, rfl⟩
              obtain ⟨z, hz⟩ : ∃ z, z = x + v0 := ⟨_, rfl⟩
              have hpl : p < 18446744073709551616 := by
                have := Nat.mul_le_mul (show q ≤ 4294967295 by omega) (show y0 ≤ 4294967295 by omega)
                omega
              have c1 : IntKind.u64.wrap ((q : Int) * (y0 : Int)) = (p : Int) := wrapP _ _ _ hp.symm hpl
              have c2 : IntKind.u64.wrap (4294967296 * (r : Int)) = (x : Int) := wrapI _ _ (by omega)
              have c3 : IntKind.u64.wrap ((x : Int) + (v0 : Int)) = (z : Int) := wrapI _ _ (by omega)
              by_cases hc : z < p
              · have c4 : decide ((z : Int) < (p : Int)) = true := by simp; omega
                have c5 : decide (z < p) = true := by simpa using hc
                have hcc : 4294967296 * r + v0 < q * y0 := by rw [← hp]; omega
                clear hp hx hz
                obtain ⟨j1, j2, j3⟩ := hqi.less HR1.out.1 bv0 (.inr hcc)
                obtain ⟨qd, hqd⟩ : ∃ qd, qd = q - 1 := ⟨_, rfl⟩
                obtain ⟨rd, hrd⟩ : ∃ rd, rd = r + y1 := ⟨_, rfl⟩
                have b1 : IntKind.u64.wrap ((q : Int) - 1) = (qd : Int) := wrapI _ _ (by omega)
                have b2 : IntKind.u64.wrap ((r : Int) + (y1 : Int)) = (rd : Int) := wrapI _ _ (by omega)
                rw [← hqd] at j2 j3
                rw [← hrd] at j2
                have HJ := Lib.hid j2
                have HQD := Lib.hid hqd
                have HRD := Lib.hid hrd
                clear hqd hrd
                by_cases hb : 4294967296 ≤ rd
                · have b3 : decide ((4294967296 : Int) ≤ (rd : Int)) = true := by simp; omega
                  have b4 : decide (4294967296 ≤ rd) = true := by simpa using hb
                  clear j2 hqi
                  have hq2 : qd = (r1 * 4294967296 + v0) / (y1 * 4294967296 + y0) := HJ.out.broke (by omega) by0 (by omega) hb
                  obtain ⟨z0, z1⟩ := QI.rest (d := v0) HR1.out.1 hq2
                  obtain ⟨g0, hg0⟩ : ∃ g0, g0 = (r1 * 4294967296 + v0) % (y1 * 4294967296 + y0) := ⟨_, rfl⟩
                  rw [← hg0, ← HY.out] at z0 z1
                  obtain ⟨d1, d2⟩ := div_two HYS.out HU.out HR1.out.2 z0 z1 (by omega)
                  obtain ⟨P2, hP2⟩ : ∃ P2, P2 = qd * Y := ⟨_, rfl⟩
                  rw [← hP2] at z0
                  have hq2lt : qd < 4294967296 := by rw [hq2]; exact QI.top HR1.out.1 bv0
                  obtain ⟨x1, hx1⟩ : ∃ x1, x1 = q1 * 4294967296 := ⟨_, rfl⟩
                  obtain ⟨x2, hx2⟩ : ∃ x2, x2 = x1 + qd := ⟨_, rfl⟩
                  obtain ⟨x3, hx3⟩ : ∃ x3, x3 = r1 * 4294967296 % 18446744073709551616 := ⟨_, rfl⟩
                  obtain ⟨x4, hx4⟩ : ∃ x4, x4 = (x3 + v0) % 18446744073709551616 := ⟨_, rfl⟩
                  obtain ⟨x5, hx5⟩ : ∃ x5, x5 = P2 % 18446744073709551616 := ⟨_, rfl⟩
                  obtain ⟨x6, hx6⟩ : ∃ x6, x6 = g0 / 2 ^ s := ⟨_, rfl⟩
                  have k1 : IntKind.u64.wrap ((q1 : Int) * 4294967296) = (x1 : Int) := wrapI _ _ (by omega)
                  have k2 : IntKind.u64.wrap ((x1 : Int) + (qd : Int)) = (x2 : Int) := wrapI _ _ (by omega)
                  have k3 : IntKind.u64.wrap ((r1 : Int) * 4294967296) = (x3 : Int) := wrapI _ _ (by omega)
                  have k4 : IntKind.u64.wrap ((x3 : Int) + (v0 : Int)) = (x4 : Int) := wrapI _ _ (by omega)
                  have k5 : IntKind.u64.wrap ((qd : Int) * (Y : Int)) = (x5 : Int) := wrapPM _ _ _ (by rw [← hP2, hx5])
                  have k6 : IntKind.u64.wrap ((x4 : Int) - (x5 : Int)) = (g0 : Int) := wrapI _ _ (by omega)
                  have k7 : (g0 : Int) / 2 ^ s = (x6 : Int) := divS _ _ _ hx6.symm
                  rw [← hx1, ← hx2] at d1
                  rw [← hx6] at d2
                  have D1 := Lib.hid d1
                  have D2 := Lib.hid d2
                  clear d1 d2 hx1 hx2 hx3 hx4 hx5 hx6 hP2 hg0 z0 z1 hq2
                  go_wp2_with fail
                  go_ret2
                  exact ⟨by rw [← D1.out, ← D2.out]; rfl, rfl⟩
                · have b3 : decide ((4294967296 : Int) ≤ (rd : Int)) = false := by simp; omega
                  have b4 : decide (4294967296 ≤ rd) = false := by simpa using hb
                  clear j2 hqi
                  go_wp2_with fail
                  go_roundg (q + 1 - 1)
                  case measure => omega
                  case rel => exact ⟨qd, rd, by have := HQD.out; omega, rfl, rfl, rfl, by omega, HJ.out⟩
              · have c4 : decide ((z : Int) < (p : Int)) = false := by simp; omega
                have c5 : decide (z < p) = false := by simpa using hc
                have hcc : q * y0 ≤ 4294967296 * r + v0 := by rw [← hp]; omega
                have HJ := Lib.hid hqi
                have HCC := Lib.hid hcc
                clear hp hqi hcc hx hz
                · skip
                  have hq2 : q = (r1 * 4294967296 + v0) / (y1 * 4294967296 + y0) := HJ.out.found (by omega) HCC.out
                  obtain ⟨z0, z1⟩ := QI.rest (d := v0) HR1.out.1 hq2
                  obtain ⟨g0, hg0⟩ : ∃ g0, g0 = (r1 * 4294967296 + v0) % (y1 * 4294967296 + y0) := ⟨_, rfl⟩
                  rw [← hg0, ← HY.out] at z0 z1
                  obtain ⟨d1, d2⟩ := div_two HYS.out HU.out HR1.out.2 z0 z1 (by omega)
                  obtain ⟨P2, hP2⟩ : ∃ P2, P2 = q * Y := ⟨_, rfl⟩
                  rw [← hP2] at z0
                  have hq2lt : q < 4294967296 := by rw [hq2]; exact QI.top HR1.out.1 bv0
                  obtain ⟨x1, hx1⟩ : ∃ x1, x1 = q1 * 4294967296 := ⟨_, rfl⟩
                  obtain ⟨x2, hx2⟩ : ∃ x2, x2 = x1 + q := ⟨_, rfl⟩
                  obtain ⟨x3, hx3⟩ : ∃ x3, x3 = r1 * 4294967296 % 18446744073709551616 := ⟨_, rfl⟩
                  obtain ⟨x4, hx4⟩ : ∃ x4, x4 = (x3 + v0) % 18446744073709551616 := ⟨_, rfl⟩
                  obtain ⟨x5, hx5⟩ : ∃ x5, x5 = P2 % 18446744073709551616 := ⟨_, rfl⟩
                  obtain ⟨x6, hx6⟩ : ∃ x6, x6 = g0 / 2 ^ s := ⟨_, rfl⟩
                  have k1 : IntKind.u64.wrap ((q1 : Int) * 4294967296) = (x1 : Int) := wrapI _ _ (by omega)
                  have k2 : IntKind.u64.wrap ((x1 : Int) + (q : Int)) = (x2 : Int) := wrapI _ _ (by omega)
                  have k3 : IntKind.u64.wrap ((r1 : Int) * 4294967296) = (x3 : Int) := wrapI _ _ (by omega)
                  have k4 : IntKind.u64.wrap ((x3 : Int) + (v0 : Int)) = (x4 : Int) := wrapI _ _ (by omega)
                  have k5 : IntKind.u64.wrap ((q : Int) * (Y : Int)) = (x5 : Int) := wrapPM _ _ _ (by rw [← hP2, hx5])
                  have k6 : IntKind.u64.wrap ((x4 : Int) - (x5 : Int)) = (g0 : Int) := wrapI _ _ (by omega)
                  have k7 : (g0 : Int) / 2 ^ s = (x6 : Int) := divS _ _ _ hx6.symm
                  rw [← hx1, ← hx2] at d1
                  rw [← hx6] at d2
                  have D1 := Lib.hid d1
                  have D2 := Lib.hid d2
                  clear d1 d2 hx1 hx2 hx3 hx4 hx5 hx6 hP2 hg0 z0 z1 hq2
                  go_wp2_with fail
                  go_ret2
                  exact ⟨by rw [← D1.out, ← D2.out]; rfl, rfl⟩
end Go.Proofs.Ytknfpdccidhhkaa
