

/- The reference of layer 40: Valid. -/
import Derived.Test.YtgjkcnfinjenoaaGamR
import Derived.Test.YtgjkcnfinjenoaaGamV
namespace Go.Proofs.Ytgjkcnfinjenoaa
open Go.RowKit

theorem okDepG_pos {m : Nat} {l : List Int} (h : okDep m l) : ∀ i, i < l.length → 0 ≤ ig l i := fun i => by
  induction i with
  | zero => intro hi; have := (h 0 hi).1; rw [if_pos rfl] at this; omega
  | succ i ih =>
    intro hi
    have h1 := (h (i + 1) hi).1
    rw [if_neg (by omega), Nat.add_sub_cancel] at h1
    have := ih (by omega)
    omega
set_option maxRecDepth 100000 in
set_option maxHeartbeats 4000000 in
theorem rvalidG_no (g : Gm) (sa da : Option Addr) (sc dc : Nat) (w : World) (h : 6 < g.starts.length ∨ g.starts.length ≤ 6 ∧ 12 < g.deps.length ∨ g.starts.length ≤ 6 ∧ g.deps.length ≤ 12 ∧ g.budget < 0 ∨ g.starts.length ≤ 6 ∧ g.deps.length ≤ 12 ∧ 0 ≤ g.budget ∧ 3 < g.budget) :
    Calls Try.prog 27 #[gmV g sa sc da dc] w (RetB (.bool (vgB g)) w) := by
  have HV := Lib.hid (show vgB g = false from vgB_false fun hv => by
    obtain ⟨v1, v2, v3, v4, _⟩ := hv
    omega)
  rcases h with h | ⟨h0, h⟩ | ⟨h0, h1, h⟩ | ⟨h0, h1, h2, h⟩
  · have d1 : decide ((6 : Int) < (g.starts.length : Int)) = true := by simp; omega
    go_enter Try.func27, Try.ntmps27
    (go_wp2_with fail; go_ret; exact retB (vbool HV.out.symm) (by repeat (first | exact Below.refl _ _ | assumption | refine Below.drew ?_ | refine below_drewN ?_ _ | refine Below.alloc ?_ (by first | omega | (simp; done) | (simp; omega)) _ | refine Below.setCell ?_ (by first | omega | (simp; done) | (simp; omega)) _ | refine Below.trans ?_ (Below.mono (by assumption) (by first | omega | (simp; done) | (simp; omega))))))
  · have d1 : decide ((6 : Int) < (g.starts.length : Int)) = false := by simp; omega
    have d2 : decide ((12 : Int) < (g.deps.length : Int)) = true := by simp; omega
    go_enter Try.func27, Try.ntmps27
    (go_wp2_with fail; go_ret; exact retB (vbool HV.out.symm) (by repeat (first | exact Below.refl _ _ | assumption | refine Below.drew ?_ | refine below_drewN ?_ _ | refine Below.alloc ?_ (by first | omega | (simp; done) | (simp; omega)) _ | refine Below.setCell ?_ (by first | omega | (simp; done) | (simp; omega)) _ | refine Below.trans ?_ (Below.mono (by assumption) (by first | omega | (simp; done) | (simp; omega))))))
  · have d1 : decide ((6 : Int) < (g.starts.length : Int)) = false := by simp; omega
    have d2 : decide ((12 : Int) < (g.deps.length : Int)) = false := by simp; omega
    have d3 : decide (g.budget < (0 : Int)) = true := by simpa using h
    go_enter Try.func27, Try.ntmps27
    (go_wp2_with fail; go_ret; exact retB (vbool HV.out.symm) (by repeat (first | exact Below.refl _ _ | assumption | refine Below.drew ?_ | refine below_drewN ?_ _ | refine Below.alloc ?_ (by first | omega | (simp; done) | (simp; omega)) _ | refine Below.setCell ?_ (by first | omega | (simp; done) | (simp; omega)) _ | refine Below.trans ?_ (Below.mono (by assumption) (by first | omega | (simp; done) | (simp; omega))))))
  · have d1 : decide ((6 : Int) < (g.starts.length : Int)) = false := by simp; omega
    have d2 : decide ((12 : Int) < (g.deps.length : Int)) = false := by simp; omega
    have d3 : decide (g.budget < (0 : Int)) = false := by simp; omega
    have d4 : decide ((3 : Int) < g.budget) = true := by simpa using h
    go_enter Try.func27, Try.ntmps27
    (go_wp2_with fail; go_ret; exact retB (vbool HV.out.symm) (by repeat (first | exact Below.refl _ _ | assumption | refine Below.drew ?_ | refine below_drewN ?_ _ | refine Below.alloc ?_ (by first | omega | (simp; done) | (simp; omega)) _ | refine Below.setCell ?_ (by first | omega | (simp; done) | (simp; omega)) _ | refine Below.trans ?_ (Below.mono (by assumption) (by first | omega | (simp; done) | (simp; omega))))))
set_option maxRecDepth 100000 in
set_option maxHeartbeats 4000000 in
theorem rvalidG_yes (g : Gm) (sa da : Option Addr) (sc dc : Nat) (w : World) (hG : GmAt w g sa da) (hF : GmBig g) (h1 : g.starts.length ≤ 6) (h2 : g.deps.length ≤ 12) (h3 : 0 ≤ g.budget) (h4 : g.budget ≤ 3) :
    Calls Try.prog 27 #[gmV g sa sc da dc] w (RetB (.bool (vgB g)) w) := by
  have HG := Lib.hid hG
  have HF := Lib.hid hF
  have HH := Lib.hid (And.intro h1 (And.intro h2 (And.intro h3 h4)))
  obtain ⟨ns, hns⟩ : ∃ n, n = g.starts.length := ⟨_, rfl⟩
  obtain ⟨nd, hnd⟩ : ∃ n, n = g.deps.length := ⟨_, rfl⟩
  obtain ⟨bu, hbu⟩ : ∃ n, n = g.budget := ⟨_, rfl⟩
  have HNS := Lib.hid hns
  have HND := Lib.hid hnd
  rw [← hns] at h1
  rw [← hnd] at h2
  rw [← hbu] at h3 h4
  unfold gmV
  rw [← hns, ← hnd, ← hbu]
  have d1 : decide ((6 : Int) < (ns : Int)) = false := by simp; omega
  have d2 : decide ((12 : Int) < (nd : Int)) = false := by simp; omega
  have d3 : decide (bu < (0 : Int)) = false := by simpa using h3
  have d4 : decide ((3 : Int) < bu) = false := by simpa using h4
  clear hG hF hns hnd hbu
  go_enter Try.func27, Try.ntmps27
  go_wp2_with fail
  obtain ⟨wx, hwx⟩ : ∃ wx, wx = w.alloc (.cells #[.slice sa ns sc, .slice da nd dc, .int .i64 bu] 25) := ⟨_, rfl⟩
  rw [← hwx]
  have hbx : Below w.heap.size w wx := by rw [hwx]; exact (Below.refl _ _).alloc (Nat.le_refl _) _
  have HBX := Lib.hid hbx
  have b0 : wx.cell? ⟨w.heap.size, 0, none⟩ = some (.slice sa ns sc) := by rw [hwx]; simp [go_sem]
  have b1 : wx.cell? ⟨w.heap.size, 1, none⟩ = some (.slice da nd dc) := by rw [hwx]; simp [go_sem]
  have HGX := Lib.hid (HG.out.later hbx)
  clear hwx hbx d1 d2 d3 d4
  go_loopg [3] (ns + 1) (fun k v3 wr => ∃ i : Nat, i ≤ ns ∧ k + i = ns + 1 ∧ v3 = .int .i64 i ∧ wr = wx ∧ ∀ r, r < i → 0 ≤ ig g.starts r ∧ ig g.starts r ≤ 12)
  case atStart => exact ⟨0, by omega, by omega, rfl, rfl, fun r hr => absurd hr (by omega)⟩
  case round =>
    obtain ⟨i, hi, hki, rfl, rfl, hall⟩ := hrel
    have HA := Lib.hid hall
    clear hall
    by_cases hlt : i < ns
    · obtain ⟨pb, po, rfl, fp⟩ := HGX.out.s.fam (by have := HNS.out; omega)
      have hc := fp i (by have := HNS.out; omega)
      obtain ⟨v, hv⟩ : ∃ v, v = ig g.starts i := ⟨_, rfl⟩
      rw [← hv] at hc
      have HVV := Lib.hid hv
      have z1 : (i : Int) < (ns : Int) := by omega
      have z0 : (0 : Int) ≤ (i : Int) := by omega
      clear fp hv
      by_cases hb : 0 ≤ v ∧ v ≤ 12
      · have e1 : decide (v < 0) = false := by simp; omega
        have e2 : decide ((12 : Int) < v) = false := by simp; omega
        have HB := Lib.hid hb
        clear hb
        go_wp2_with fail
        go_roundg (ns - i)
        case measure => omega
        case rel => exact ⟨i + 1, by omega, by omega, by go_num, rfl, fun r hr => by
          rcases Nat.lt_succ_iff_lt_or_eq.1 hr with h | h
          · exact HA.out r h
          · subst h; rw [← HVV.out]; exact HB.out⟩
      · have HN := Lib.hid (show vgB g = false from vgB_false fun hvg => by
          have := hvg.2.2.2.2.1 i (by have := HNS.out; omega)
          rw [← HVV.out] at this
          exact hb this)
        by_cases e1 : v < 0
        · have e1' : decide (v < 0) = true := by simpa using e1
          clear hb e1
          go_wp2_with fail
          go_ret
          exact retB (vbool HN.out.symm) HBX.out
        · have e1' : decide (v < 0) = false := by simpa using e1
          have e2 : decide ((12 : Int) < v) = true := by simp; omega
          clear hb e1
          go_wp2_with fail
          go_ret
          exact retB (vbool HN.out.symm) HBX.out
    · obtain rfl : i = ns := by omega
      have HS := Lib.hid (show ∀ r, r < g.starts.length → 0 ≤ ig g.starts r ∧ ig g.starts r ≤ 12 from fun r hr => HA.out r (by have := HNS.out; omega))
      go_wp2_with fail
      go_loopg [4] (nd + 1) (fun k v4 wq => ∃ t : Nat, t ≤ nd ∧ k + t = nd + 1 ∧ v4 = .int .i64 t ∧ wq = wr ∧ ∀ r, r < t → okDep g.starts.length (dg g r))
      case atStart => exact ⟨0, by omega, by omega, rfl, rfl, fun r hr => absurd hr (by omega)⟩
      case round =>
        obtain ⟨t, ht, hkt, rfl, rfl, hall⟩ := hrel
        have HD := Lib.hid hall
        clear hall
        by_cases hlt2 : t < nd
        · have htd : t < g.deps.length := by have := HND.out; omega
          obtain ⟨lb, lo, ra, rc, rfl, hcell, hrow⟩ := HGX.out.d t htd
          obtain ⟨l, hl⟩ : ∃ l, g.deps.getD t [] = l := ⟨_, rfl⟩
          rw [hl] at hcell hrow
          have hlen : l.length < 9223372036854775808 := by rw [← hl]; exact HF.out.r t htd
          have HL := Lib.hid (show dg g t = l from hl)
          have HR := Lib.hid hrow
          obtain ⟨ll, hll⟩ : ∃ ll, ll = l.length := ⟨_, rfl⟩
          have HLL := Lib.hid hll
          rw [← hll] at hcell hlen
          clear hl hrow hll
          have y1 : (t : Int) < (nd : Int) := by omega
          have y0 : (0 : Int) ≤ (t : Int) := by omega
          go_wp2_with fail
          go_loopg [5] (ll + 1) (fun k v5 wz => ∃ q : Nat, q ≤ ll ∧ k + q = ll + 1 ∧ v5 = .int .i64 q ∧ wz = wr ∧ ∀ r, r < q → (if r = 0 then (-1 : Int) else ig l (r - 1)) < ig l r ∧ ig l r < g.starts.length)
          case atStart => exact ⟨0, by omega, by omega, rfl, rfl, fun r hr => absurd hr (by omega)⟩
          case round =>
            obtain ⟨q, hq, hkq, rfl, rfl, hok⟩ := hrel
            have HK := Lib.hid hok
            clear hok
            by_cases hlq : q < ll
            · have hqL : q < l.length := by have := HLL.out; omega
              obtain ⟨rb, ro, rfl, fr⟩ := HR.out.fam (by omega)
              have hcq := fr q hqL
              obtain ⟨v, hv⟩ : ∃ v, v = ig l q := ⟨_, rfl⟩
              rw [← hv] at hcq
              have HVV := Lib.hid hv
              have HBD := Lib.hid (show okDep g.starts.length l → ((if q = 0 then (-1 : Int) else ig l (q - 1)) < v ∧ v < g.starts.length ∧ 0 ≤ v) from fun h => by
                have h1 := h q hqL
                have h2 := okDepG_pos h q hqL
                rw [← hv] at h1 h2
                exact ⟨h1.1, h1.2, h2⟩)
              have HVN := Lib.hid (show ¬ okDep g.starts.length l → vgB g = false from fun h => vgB_false fun hvg => by
                have := hvg.2.2.2.2.2 t htd
                rw [HL.out] at this
                exact h this)
              have x1 : (q : Int) < (ll : Int) := by omega
              have x0 : (0 : Int) ≤ (q : Int) := by omega
              clear hv
              by_cases hv0 : v < 0
              · have e1 : decide (v < 0) = true := by simpa using hv0
                have HN := Lib.hid (HVN.out fun h => by have := (HBD.out h).2.2; omega)
                clear fr hv0
                go_wp2_with fail
                go_ret
                exact retB (vbool HN.out.symm) HBX.out
              · have e1 : decide (v < 0) = false := by simpa using hv0
                by_cases hvn : (i : Int) ≤ v
                · have e2 : decide ((i : Int) ≤ v) = true := by simpa using hvn
                  have HN := Lib.hid (HVN.out fun h => by have := (HBD.out h).2.1; have := HNS.out; omega)
                  clear fr hv0 hvn
                  go_wp2_with fail
                  go_ret
                  exact retB (vbool HN.out.symm) HBX.out
                · have e2 : decide ((i : Int) ≤ v) = false := by simpa using hvn
                  by_cases hq0 : q = 0
                  · subst hq0
                    have HOK := Lib.hid (show (-1 : Int) < v ∧ v < g.starts.length from ⟨by omega, by have := HNS.out; omega⟩)
                    rw [Nat.add_zero] at hcq
                    clear fr hv0 hvn
                    go_wp2_with fail
                    go_roundg ll
                    case measure => omega
                    case rel => exact ⟨1, by omega, by omega, by go_num, rfl, fun r hr => by
                      obtain rfl : r = 0 := by omega
                      rw [if_pos rfl, ← HVV.out]
                      exact HOK.out⟩
                  · have hcp := fr (q - 1) (by omega)
                    obtain ⟨u, hu⟩ : ∃ u, u = ig l (q - 1) := ⟨_, rfl⟩
                    rw [← hu] at hcp
                    have HUU := Lib.hid hu
                    have e3 : decide (0 < q) = true := decide_eq_true (by omega)
                    have e3' : decide ((0 : Int) < (q : Int)) = true := decide_eq_true (by omega)
                    have w1 : IntKind.i64.wrap ((q : Int) - 1) = ((q - 1 : Nat) : Int) := by rw [IntWalk.i64_in _ (by omega)]; omega
                    obtain ⟨q1, hq1⟩ : ∃ q1, q1 = q - 1 := ⟨_, rfl⟩
                    rw [← hq1] at hcp w1
                    have u0 : (0 : Int) ≤ (q1 : Int) := by omega
                    have u1 : (q1 : Int) < (ll : Int) := by omega
                    have HV2 := Lib.hid (show ¬ v < 0 ∧ ¬ (i : Int) ≤ v ∧ ¬ q = 0 from ⟨hv0, hvn, hq0⟩)
                    have HQ1 := Lib.hid hq1
                    clear fr hv0 hvn hu hq0 hq1
                    by_cases hle : v ≤ u
                    · have e4 : decide (v ≤ u) = true := by simpa using hle
                      have HN := Lib.hid (HVN.out fun h => by
                        have := (HBD.out h).1
                        rw [if_neg HV2.out.2.2, ← HUU.out] at this
                        omega)
                      clear hle
                      go_wp2_with fail
                      go_ret
                      exact retB (vbool HN.out.symm) HBX.out
                    · have e4 : decide (v ≤ u) = false := by simpa using hle
                      have HLE := Lib.hid hle
                      clear hle
                      go_wp2_with fail
                      go_roundg (ll - q)
                      case measure => omega
                      case rel => exact ⟨q + 1, by omega, by omega, by go_num, rfl, fun r hr => by
                        rcases Nat.lt_succ_iff_lt_or_eq.1 hr with h | h
                        · exact HK.out r h
                        · subst h
                          rw [if_neg HV2.out.2.2, ← HUU.out, ← HVV.out]
                          have h1 := HV2.out.2.1
                          have h2 := HNS.out
                          have h3 := HLE.out
                          exact ⟨by omega, by omega⟩⟩
            · obtain rfl : q = ll := by omega
              go_wp2_with fail
              go_roundg (nd - t)
              case measure => omega
              case rel => exact ⟨t + 1, by omega, by omega, by go_num, rfl, fun r hr => by
                rcases Nat.lt_succ_iff_lt_or_eq.1 hr with h | h
                · exact HD.out r h
                · subst h; rw [HL.out]; exact fun j hj => HK.out j (by have := HLL.out; omega)⟩
        · obtain rfl : t = nd := by omega
          have HN := Lib.hid (show vgB g = true from vgB_true ⟨HH.out.1, HH.out.2.1, HH.out.2.2.1, HH.out.2.2.2, HS.out, fun r hr => HD.out r (by have := HND.out; omega)⟩)
          go_wp2_with fail
          go_ret
          exact retB (vbool HN.out.symm) HBX.out
theorem rvalidG_any (g : Gm) (sa da : Option Addr) (sc dc : Nat) (w : World) (hG : GmAt w g sa da) (hF : GmBig g) : Calls Try.prog 27 #[gmV g sa sc da dc] w (RetB (.bool (vgB g)) w) := by
  by_cases h1 : g.starts.length ≤ 6
  · by_cases h2 : g.deps.length ≤ 12
    · by_cases h3 : 0 ≤ g.budget
      · by_cases h4 : g.budget ≤ 3
        · exact rvalidG_yes g sa da sc dc w hG hF h1 h2 h3 h4
        · exact rvalidG_no g sa da sc dc w (.inr (.inr (.inr ⟨h1, h2, h3, by omega⟩)))
      · exact rvalidG_no g sa da sc dc w (.inr (.inr (.inl ⟨h1, h2, by omega⟩)))
    · exact rvalidG_no g sa da sc dc w (.inr (.inl ⟨h1, by omega⟩))
  · exact rvalidG_no g sa da sc dc w (.inl (by omega))
end Go.Proofs.Ytgjkcnfinjenoaa
