
/- Package game: small facts that the laws share. -/
import Derived.Test.YtlkknoooeldomaaGamHd
namespace Go.Proofs.Ytlkknoooeldomaa
open Go.RowKit

theorem fewB_of {g : Gm} (h : fewB g = true) : VG g ∧ SmG g ∧ g.deps.length ≤ 6 ∧ g.starts.length ≤ 4 := @of_decide_eq_true _ (Classical.propDecidable _) h
theorem VG.few {g : Gm} (h : VG g) : GmFew g := ⟨by have := h.1; omega, by have := h.2.1; omega, fun i hi => by have := okDep_len (h.2.2.2.2.2 i hi); have := h.1; omega⟩
theorem value_ok (g : Gm) (sa da : Option Addr) (sc dc : Nat) (w : World) (hG : GmAt w g sa da) (hv : VG g) (hs : SmG g) : Calls Try.prog 11 #[gmV g sa sc da dc] w (RetB (.tuple #[.int .i64 (WG g (beginS g)), .int .i64 0]) w) := by
  have := value_any g sa da sc dc w hG hv.few
  rwa [valG_ok hv hs] at this
theorem szG_mono {g h : Gm} (hg : VG g) (hv : VG h) (hd : h.deps.length ≤ g.deps.length) (hb : h.budget ≤ g.budget) (hs : ∀ i, ig h.starts i ≤ ig g.starts i) : ∀ i, i ≤ g.starts.length → i ≤ h.starts.length → szG h i ≤ szG g i
  | 0, _, _ => by
    have h1 := hv.2.2.1
    show max 1 (h.deps.length : Int) * (h.budget + 1) ≤ max 1 (g.deps.length : Int) * (g.budget + 1)
    exact Int.mul_le_mul (by omega) (by omega) (by omega) (by omega)
  | i + 1, hi, hi' => by
    have ih := szG_mono hg hv hd hb hs i (by omega) (by omega)
    have h1 := (szG_in hv i (by omega)).1
    have h2 := (szG_in hg i (by omega)).1
    have h3 := hs i
    have h4 := (hv.2.2.2.2.1 i (by omega)).1
    show szG h i * (2 * (ig h.starts i + 1)) ≤ szG g i * (2 * (ig g.starts i + 1))
    exact Int.mul_le_mul ih (by omega) (by omega) (by omega)
theorem SmG.mono {g h : Gm} (hsm : SmG g) (hg : VG g) (hv : VG h) (hl : h.starts.length = g.starts.length) (hd : h.deps.length ≤ g.deps.length) (hb : h.budget ≤ g.budget) (hs : ∀ i, ig h.starts i ≤ ig g.starts i) : SmG h := by
  have := szG_mono hg hv hd hb hs g.starts.length (Nat.le_refl _) (by omega)
  unfold SmG at *
  rw [hl]
  omega
end Go.Proofs.Ytlkknoooeldomaa

