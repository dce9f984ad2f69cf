

/- The reference: Possible. -/
import Derived.Test.YtghdfoolieagfaaJdgX
namespace Go.Proofs.Ytghdfoolieagfaa
open Go.RowKit

def possP (g : Gm) (p : Pos) : Prop := p.choice = -1 ∨ (0 ≤ p.turn ∧ p.turn < g.deps.length ∧ 0 ≤ p.choice ∧ p.choice < p.starts.length ∧ p.choice < p.failed.length ∧ p.choice ∈ dg g p.turn.toNat ∧ bg p.failed p.choice.toNat = false ∧ 0 < ig p.starts p.choice.toNat)
noncomputable def possB (g : Gm) (p : Pos) : Bool := @decide (possP g p) (Classical.propDecidable _)
theorem possB_yes {g : Gm} {p : Pos} (h : possP g p) : possB g p = true := @decide_eq_true _ (Classical.propDecidable _) h
theorem possB_no {g : Gm} {p : Pos} (h : ¬ possP g p) : possB g p = false := @decide_eq_false _ (Classical.propDecidable _) h
set_option maxRecDepth 100000 in
set_option maxHeartbeats 4000000 in
theorem poss_none (g : Gm) (p : Pos) (ga gd sa fa : Option Addr) (gc ge sc fc : Nat) (w : World) (h : p.choice = -1) :
    Calls Try.prog 14 #[gmV g ga gc gd ge, psV p sa sc fa fc] w (RetB (.bool (possB g p)) w) := by
  have HN := Lib.hid (possB_yes (g := g) (.inl h))
  unfold psV
  rw [h]
  clear h
  go_enter Try.func14, Try.ntmps14
  (go_wp2_with fail; go_ret; exact retB (vbool HN.out.symm) (by repeat (first | exact Below.refl _ _ | assumption | refine Below.drew ?_ | refine below_drewN ?_ _ | refine Below.alloc ?_ (by first | omega | (simp; done) | (simp; omega)) _ | refine Below.setCell ?_ (by first | omega | (simp; done) | (simp; omega)) _ | refine Below.trans ?_ (Below.mono (by assumption) (by first | omega | (simp; done) | (simp; omega))))))
set_option maxRecDepth 100000 in
set_option maxHeartbeats 4000000 in
theorem poss_out (g : Gm) (p : Pos) (ga gd sa fa : Option Addr) (gc ge sc fc : Nat) (w : World) (hc : p.choice ≠ -1) (h : ¬ (0 ≤ p.turn ∧ p.turn < g.deps.length ∧ 0 ≤ p.choice ∧ p.choice < p.starts.length ∧ p.choice < p.failed.length)) :
    Calls Try.prog 14 #[gmV g ga gc gd ge, psV p sa sc fa fc] w (RetB (.bool (possB g p)) w) := by
  have HN := Lib.hid (possB_no (g := g) (p := p) fun hp => by
    rcases hp with hp | ⟨h1, h2, h3, h4, h5, _⟩
    · exact hc hp
    · exact h ⟨h1, h2, h3, h4, h5⟩)
  obtain ⟨t, ht⟩ : ∃ n, n = p.turn := ⟨_, rfl⟩
  obtain ⟨c, hcc⟩ : ∃ n, n = p.choice := ⟨_, rfl⟩
  obtain ⟨pl, hpl⟩ : ∃ n, n = p.starts.length := ⟨_, rfl⟩
  obtain ⟨pf, hpf⟩ : ∃ n, n = p.failed.length := ⟨_, rfl⟩
  obtain ⟨dl, hdl⟩ : ∃ n, n = g.deps.length := ⟨_, rfl⟩
  unfold psV gmV
  rw [← ht, ← hcc, ← hpl, ← hpf, ← hdl] at h ⊢
  rw [← hcc] at hc
  clear hcc ht hpl hpf hdl
  have d0 : (c == (-1 : Int)) = false := by simpa using hc
  clear hc
  by_cases h1 : t < 0
  · have d1 : decide (t < 0) = true := decide_eq_true h1
    clear h h1
    go_enter Try.func14, Try.ntmps14
    (go_wp2_with fail; go_ret; exact retB (vbool HN.out.symm) (by repeat (first | exact Below.refl _ _ | assumption | refine Below.drew ?_ | refine below_drewN ?_ _ | refine Below.alloc ?_ (by first | omega | (simp; done) | (simp; omega)) _ | refine Below.setCell ?_ (by first | omega | (simp; done) | (simp; omega)) _ | refine Below.trans ?_ (Below.mono (by assumption) (by first | omega | (simp; done) | (simp; omega))))))
  · have d1 : decide (t < 0) = false := decide_eq_false h1
    by_cases h2 : (dl : Int) ≤ t
    · have d2 : decide ((dl : Int) ≤ t) = true := decide_eq_true h2
      clear h h1 h2
      go_enter Try.func14, Try.ntmps14
      (go_wp2_with fail; go_ret; exact retB (vbool HN.out.symm) (by repeat (first | exact Below.refl _ _ | assumption | refine Below.drew ?_ | refine below_drewN ?_ _ | refine Below.alloc ?_ (by first | omega | (simp; done) | (simp; omega)) _ | refine Below.setCell ?_ (by first | omega | (simp; done) | (simp; omega)) _ | refine Below.trans ?_ (Below.mono (by assumption) (by first | omega | (simp; done) | (simp; omega))))))
    · have d2 : decide ((dl : Int) ≤ t) = false := decide_eq_false h2
      by_cases h3 : c < 0
      · have d3 : decide (c < 0) = true := decide_eq_true h3
        clear h h1 h2 h3
        go_enter Try.func14, Try.ntmps14
        (go_wp2_with fail; go_ret; exact retB (vbool HN.out.symm) (by repeat (first | exact Below.refl _ _ | assumption | refine Below.drew ?_ | refine below_drewN ?_ _ | refine Below.alloc ?_ (by first | omega | (simp; done) | (simp; omega)) _ | refine Below.setCell ?_ (by first | omega | (simp; done) | (simp; omega)) _ | refine Below.trans ?_ (Below.mono (by assumption) (by first | omega | (simp; done) | (simp; omega))))))
      · have d3 : decide (c < 0) = false := decide_eq_false h3
        by_cases h4 : (pl : Int) ≤ c
        · have d4 : decide ((pl : Int) ≤ c) = true := decide_eq_true h4
          clear h h1 h2 h3 h4
          go_enter Try.func14, Try.ntmps14
          (go_wp2_with fail; go_ret; exact retB (vbool HN.out.symm) (by repeat (first | exact Below.refl _ _ | assumption | refine Below.drew ?_ | refine below_drewN ?_ _ | refine Below.alloc ?_ (by first | omega | (simp; done) | (simp; omega)) _ | refine Below.setCell ?_ (by first | omega | (simp; done) | (simp; omega)) _ | refine Below.trans ?_ (Below.mono (by assumption) (by first | omega | (simp; done) | (simp; omega))))))
        · have d4 : decide ((pl : Int) ≤ c) = false := decide_eq_false h4
          have d5 : decide ((pf : Int) ≤ c) = true := decide_eq_true (Int.not_lt.1 fun h5 => h ⟨by omega, by omega, by omega, by omega, h5⟩)
          clear h h1 h2 h3 h4
          go_enter Try.func14, Try.ntmps14
          (go_wp2_with fail; go_ret; exact retB (vbool HN.out.symm) (by repeat (first | exact Below.refl _ _ | assumption | refine Below.drew ?_ | refine below_drewN ?_ _ | refine Below.alloc ?_ (by first | omega | (simp; done) | (simp; omega)) _ | refine Below.setCell ?_ (by first | omega | (simp; done) | (simp; omega)) _ | refine Below.trans ?_ (Below.mono (by assumption) (by first | omega | (simp; done) | (simp; omega))))))
set_option maxRecDepth 100000 in
set_option maxHeartbeats 4000000 in
theorem poss_in (g : Gm) (p : Pos) (ga gd sa fa : Option Addr) (gc ge sc fc : Nat) (w : World) (t c : Nat) (hG : GmAt w g ga gd) (hp : PsAt w p sa fa) (hF : GmFew g) (ht : p.turn = t) (hc : p.choice = c) (h1 : t < g.deps.length) (h2 : c < p.starts.length) (h3 : c < p.failed.length) :
    Calls Try.prog 14 #[gmV g ga gc gd ge, psV p sa sc fa fc] w (RetB (.bool (possB g p)) w) := by
  have HPR := Lib.hid (show possP g p ↔ ((c : Int) ∈ dg g t ∧ bg p.failed c = false ∧ 0 < ig p.starts c) from by
    unfold possP
    rw [ht, hc]
    simp only [Int.toNat_natCast]
    constructor
    · rintro (h | ⟨_, _, _, _, _, h⟩)
      · omega
      · exact h
    · intro h
      exact .inr ⟨by omega, by omega, by omega, by omega, by omega, h⟩)
  obtain ⟨lb, lo, ra, rc, rfl, hcell, hrow⟩ := hG.d t h1
  obtain ⟨pb, po, rfl, fp⟩ := hp.s.fam (by omega)
  obtain ⟨tb, to, rfl, ft⟩ := hp.f.fam (by omega)
  have x1 := fp c h2
  have x2 := ft c h3
  have hlen := hF.r t h1
  obtain ⟨l, hl⟩ : ∃ l, g.deps.getD t [] = l := ⟨_, rfl⟩
  rw [hl] at hcell hrow
  rw [show dg g t = l from hl] at HPR hlen
  obtain ⟨pl, hpl⟩ : ∃ n, n = p.starts.length := ⟨_, rfl⟩
  obtain ⟨pf, hpf⟩ : ∃ n, n = p.failed.length := ⟨_, rfl⟩
  obtain ⟨dl, hdl⟩ : ∃ n, n = g.deps.length := ⟨_, rfl⟩
  obtain ⟨u, hu⟩ : ∃ u, u = ig p.starts c := ⟨_, rfl⟩
  obtain ⟨v, hv⟩ : ∃ v, v = bg p.failed c := ⟨_, rfl⟩
  unfold psV gmV
  rw [← hpl] at h2 ⊢
  rw [← hpf] at h3 ⊢
  rw [← hdl] at h1 ⊢
  rw [← hu] at x1 HPR
  rw [← hv] at x2 HPR
  rw [ht, hc]
  have HROW := Lib.hid hrow
  clear hu hv hpl hpf hdl hl hF hG hp ht hc fp ft hrow
  have d0 : ((c : Int) == (-1 : Int)) = false := by simp
  have d1 : decide ((t : Int) < 0) = false := decide_eq_false (by omega)
  have d2 : decide ((dl : Int) ≤ (t : Int)) = false := decide_eq_false (by omega)
  have d3 : decide ((c : Int) < 0) = false := decide_eq_false (by omega)
  have d4 : decide ((pl : Int) ≤ (c : Int)) = false := decide_eq_false (by omega)
  have d5 : decide ((pf : Int) ≤ (c : Int)) = false := decide_eq_false (by omega)
  have n1 : (0 : Int) ≤ (t : Int) := by omega
  have n2 : (t : Int) < (dl : Int) := by omega
  have n3 : (0 : Int) ≤ (c : Int) := by omega
  have n4 : (c : Int) < (pl : Int) := by omega
  have n5 : (c : Int) < (pf : Int) := by omega
  clear h1 h2 h3
  go_enter Try.func14, Try.ntmps14
  go_wp2_with fail
  obtain ⟨wx, hwx⟩ : ∃ wx, wx = (w.alloc (Obj.cells #[.slice ga g.starts.length gc, .slice (some ⟨lb, lo, none⟩) dl ge, .int .i64 g.budget] 25)).alloc (Obj.cells #[.int .i64 t, .slice (some ⟨pb, po, none⟩) pl sc, .slice (some ⟨tb, to, none⟩) pf fc, .int .i64 p.budget, .int .i64 c, .int .i64 p.bound] 33) := ⟨_, rfl⟩
  rw [← hwx]
  have hbx : Below w.heap.size w wx := by rw [hwx]; exact (by repeat (first | exact Below.refl _ _ | assumption | refine Below.drew ?_ | refine below_drewN ?_ _ | refine Below.alloc ?_ (by first | omega | (simp; done) | (simp; omega)) _ | refine Below.setCell ?_ (by first | omega | (simp; done) | (simp; omega)) _ | refine Below.trans ?_ (Below.mono (by assumption) (by first | omega | (simp; done) | (simp; omega)))))
  have b1 : wx.cell? ⟨w.heap.size, 1, none⟩ = some (.slice (some ⟨lb, lo, none⟩) dl ge) := by rw [hwx]; simp [go_sem]
  have c0 : wx.cell? ⟨w.heap.size + 1, 0, none⟩ = some (.int .i64 t) := by rw [hwx]; simp [go_sem]
  have c1 : wx.cell? ⟨w.heap.size + 1, 1, none⟩ = some (.slice (some ⟨pb, po, none⟩) pl sc) := by rw [hwx]; simp [go_sem]
  have c2 : wx.cell? ⟨w.heap.size + 1, 2, none⟩ = some (.slice (some ⟨tb, to, none⟩) pf fc) := by rw [hwx]; simp [go_sem]
  have c4 : wx.cell? ⟨w.heap.size + 1, 4, none⟩ = some (.int .i64 c) := by rw [hwx]; simp [go_sem]
  have r0 := cell_later hbx hcell
  have y1 := cell_later hbx x1
  have y2 := cell_later hbx x2
  have HRX := Lib.hid (HROW.out.later hbx)
  clear hwx hcell x1 x2 d0 d1 d2 d3 d4 d5
  go_loopg [5] (l.length + 1) (fun k v5 wr => ∃ i : Nat, i ≤ l.length ∧ k + i = l.length + 1 ∧ v5 = .int .i64 i ∧ Below wx.heap.size wx wr ∧ ∀ r, r < i → ig l r ≠ (c : Int))
  case atStart => exact ⟨0, by omega, by omega, rfl, Below.refl _ _, fun r hr => absurd hr (by omega)⟩
  case round =>
    obtain ⟨i, hi, hki, rfl, hbr, hall⟩ := hrel
    have HA := Lib.hid hall
    have HBR := Lib.hid hbr
    clear hall
    have e1 := cell_later hbr b1
    have f0 := cell_later hbr c0
    have f1 := cell_later hbr c1
    have f2 := cell_later hbr c2
    have f4 := cell_later hbr c4
    have s0 := cell_later hbr r0
    have z1 := cell_later hbr y1
    have z2 := cell_later hbr y2
    have hszr := hbr.size
    clear hbr
    by_cases hlt : i < l.length
    · obtain ⟨qb, qo, rfl, fq⟩ := HRX.out.fam (by omega)
      have q1 := cell_later HBR.out (fq i hlt)
      clear fq
      have m1 : (i : Int) < (l.length : Int) := by omega
      have m0 : (0 : Int) ≤ (i : Int) := by omega
      obtain ⟨m, hm⟩ : ∃ m, m = ig l i := ⟨_, rfl⟩
      rw [← hm] at q1
      have HM := Lib.hid hm
      clear hm
      have hS : ∀ wy : World, Below wr.heap.size wr wy → wy.cell? ⟨w.heap.size, 1, none⟩ = some (.slice (some ⟨lb, lo, none⟩) dl ge) ∧ wy.cell? ⟨w.heap.size + 1, 0, none⟩ = some (.int .i64 t) ∧ wy.cell? ⟨w.heap.size + 1, 4, none⟩ = some (.int .i64 c) ∧ wy.cell? ⟨lb, lo + t, none⟩ = some (.slice (some ⟨qb, qo, none⟩) l.length rc) ∧ wy.cell? ⟨qb, qo + i, none⟩ = some (.int .i64 m) := fun wy hy => ⟨cell_later hy e1, cell_later hy f0, cell_later hy f4, cell_later hy s0, cell_later hy q1⟩
      go_wp2_with fail
      refine wp_flow_s [] [] (by kernel_rfl) (by kernel_rfl) (by kernel_rfl) ?_
      repeat (first | ((with_reducible refine Flow.pure hS StayG.nil (v := ?_) ?_ ?_ ?_ ?_); rotate_left 1; (focus kernel_rfl); (focus (intro _; rfl)); (focus (intro β wx hSw; (try dsimp only at hSw); go_simp; (try with_reducible rfl); done)); (try simp only [Act.put, List.setIfInBounds_toArray, List.set_cons_zero, List.set_cons_succ, Nat.reduceAdd])))
      ((with_reducible refine Flow.stop ?_); dsimp only; intro β w8 hI)
      have hb8 := hI.below
      have HB8 := Lib.hid (HBR.out.trans (hb8.mono hszr))
      have HBW := Lib.hid (hbx.trans (HB8.out.mono hbx.size))
      have g1 := cell_later hb8 f1
      have g2 := cell_later hb8 f2
      have g4 := cell_later hb8 f4
      have k1 := cell_later hb8 z1
      have k2 := cell_later hb8 z2
      clear hS hI hb8 e1 f0 f1 f2 f4 s0 z1 z2 q1 b1 c0 c1 c2 c4 r0 y1 y2
      by_cases hmc : m = (c : Int)
      · have hin : (c : Int) ∈ l := by rw [← hmc, HM.out, ig_lt hlt]; exact List.getElem_mem hlt
        have j1 : (m == (c : Int)) = true := by simpa using hmc
        clear hmc
        cases v
        · by_cases h0 : 0 < u
          · have j2 : decide (0 < u) = true := decide_eq_true h0
            have HN := Lib.hid (possB_yes (HPR.out.2 ⟨hin, rfl, h0⟩))
            clear h0 hin
            go_wp2_with fail
            go_ret
            exact retB (vbool HN.out.symm) HBW.out
          · have j2 : decide (0 < u) = false := decide_eq_false h0
            have HN := Lib.hid (possB_no fun h => h0 (HPR.out.1 h).2.2)
            clear h0 hin
            go_wp2_with fail
            go_ret
            exact retB (vbool HN.out.symm) HBW.out
        · have HN := Lib.hid (possB_no fun h => absurd (HPR.out.1 h).2.1 (by decide))
          clear hin
          go_wp2_with fail
          go_ret
          exact retB (vbool HN.out.symm) HBW.out
      · have j1 : (m == (c : Int)) = false := by simpa using hmc
        have HMC := Lib.hid hmc
        clear hmc
        go_wp2_with fail
        go_roundg (l.length - i)
        case measure => omega
        case rel => exact ⟨i + 1, by omega, by omega, by go_num, HB8.out, fun r hr => by
          rcases Nat.lt_succ_iff_lt_or_eq.1 hr with h | h
          · exact HA.out r h
          · subst h; rw [← HM.out]; exact HMC.out⟩
    · obtain rfl : i = l.length := by omega
      have HN := Lib.hid (possB_no fun h => by
        obtain ⟨j, hj, e⟩ := List.getElem_of_mem (HPR.out.1 h).1
        exact HA.out j hj (by rw [ig_lt hj, e]))
      have HBW := Lib.hid (hbx.trans (HBR.out.mono hbx.size))
      go_wp2_with fail
      go_ret
      exact retB (vbool HN.out.symm) HBW.out
theorem poss_any (g : Gm) (p : Pos) (ga gd sa fa : Option Addr) (gc ge sc fc : Nat) (w : World) (hG : GmAt w g ga gd) (hp : PsAt w p sa fa) (hF : GmFew g) :
    Calls Try.prog 14 #[gmV g ga gc gd ge, psV p sa sc fa fc] w (RetB (.bool (possB g p)) w) := by
  by_cases hc : p.choice = -1
  · exact poss_none g p ga gd sa fa gc ge sc fc w hc
  · by_cases h : 0 ≤ p.turn ∧ p.turn < g.deps.length ∧ 0 ≤ p.choice ∧ p.choice < p.starts.length ∧ p.choice < p.failed.length
    · obtain ⟨t, ht⟩ := Int.eq_ofNat_of_zero_le h.1
      obtain ⟨c, hcc⟩ := Int.eq_ofNat_of_zero_le h.2.2.1
      exact poss_in g p ga gd sa fa gc ge sc fc w t c hG hp hF ht hcc (by omega) (by omega) (by omega)
    · exact poss_out g p ga gd sa fa gc ge sc fc w hc h
end Go.Proofs.Ytghdfoolieagfaa
