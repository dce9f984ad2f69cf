

/- The reference: same, Find. -/
import Derived.Test.YtghdfoolieagfaaJdgT
namespace Go.Proofs.Ytghdfoolieagfaa
open Go.RowKit

def sameB (p s : Pos) : Bool := decide (p.st = s.st)
theorem st_iff {p s : Pos} : p.st = s.st ↔ p.turn = s.turn ∧ p.starts = s.starts ∧ p.failed = s.failed ∧ p.budget = s.budget := by
  unfold Pos.st
  simp only [St.mk.injEq]
theorem sameB_no {p s : Pos} (h : ¬ (p.turn = s.turn ∧ p.starts = s.starts ∧ p.failed = s.failed ∧ p.budget = s.budget)) : sameB p s = false := decide_eq_false fun e => h (st_iff.1 e)
theorem sameB_yes {p s : Pos} (h : p.turn = s.turn ∧ p.starts = s.starts ∧ p.failed = s.failed ∧ p.budget = s.budget) : sameB p s = true := decide_eq_true (st_iff.2 h)
theorem ints_ext {l m : List Int} (h : l.length = m.length) (e : ∀ j, j < l.length → ig l j = ig m j) : l = m := by
  refine List.ext_getElem h fun i h1 h2 => ?_
  rw [← ig_lt h1, ← ig_lt h2]
  exact e i h1
theorem bools_ext {l m : List Bool} (h : l.length = m.length) (e : ∀ j, j < l.length → bg l j = bg m j) : l = m := by
  refine List.ext_getElem h fun i h1 h2 => ?_
  rw [← bg_lt h1, ← bg_lt h2]
  exact e i h1
set_option maxRecDepth 100000 in
set_option maxHeartbeats 4000000 in
theorem same_no (p s : Pos) (sa fa ta ga : Option Addr) (sc fc tc gc : Nat) (w : World) (h : ¬ (p.turn = s.turn ∧ p.budget = s.budget ∧ p.starts.length = s.starts.length ∧ p.failed.length = s.failed.length)) :
    Calls Try.prog 27 #[psV p sa sc fa fc, psV s ta tc ga gc] w (RetB (.bool (sameB p s)) w) := by
  have HN := Lib.hid (sameB_no (p := p) (s := s) fun ⟨h1, h2, h3, h4⟩ => h ⟨h1, h4, by rw [h2], by rw [h3]⟩)
  obtain ⟨pl, hpl⟩ : ∃ n, n = p.starts.length := ⟨_, rfl⟩
  obtain ⟨sl, hsl⟩ : ∃ n, n = s.starts.length := ⟨_, rfl⟩
  obtain ⟨pf, hpf⟩ : ∃ n, n = p.failed.length := ⟨_, rfl⟩
  obtain ⟨sf, hsf⟩ : ∃ n, n = s.failed.length := ⟨_, rfl⟩
  unfold psV
  rw [← hpl, ← hsl, ← hpf, ← hsf] at h ⊢
  clear hpl hsl hpf hsf
  by_cases h1 : p.turn = s.turn
  · have d1 : (p.turn != s.turn) = false := by simpa using h1
    by_cases h2 : p.budget = s.budget
    · have d2 : (p.budget != s.budget) = false := by simpa using h2
      by_cases h3 : pl = sl
      · have d3 : ((pl : Int) != (sl : Int)) = false := by simp; omega
        have h4 : ¬ pf = sf := fun h4 => h ⟨h1, h2, h3, h4⟩
        have d4 : ((pf : Int) != (sf : Int)) = true := by simp; omega
        clear h h1 h2 h3 h4
        go_enter Try.func27, Try.ntmps27
        (go_wp2_with fail; go_ret; exact retB (vbool HN.out.symm) (by repeat (first | exact Below.refl _ _ | assumption | refine Below.drew ?_ | refine below_drewN ?_ _ | refine Below.alloc ?_ (by first | omega | (simp; done) | (simp; omega)) _ | refine Below.setCell ?_ (by first | omega | (simp; done) | (simp; omega)) _ | refine Below.trans ?_ (Below.mono (by assumption) (by first | omega | (simp; done) | (simp; omega))))))
      · have d3 : ((pl : Int) != (sl : Int)) = true := by simp; omega
        clear h h1 h2 h3
        go_enter Try.func27, Try.ntmps27
        (go_wp2_with fail; go_ret; exact retB (vbool HN.out.symm) (by repeat (first | exact Below.refl _ _ | assumption | refine Below.drew ?_ | refine below_drewN ?_ _ | refine Below.alloc ?_ (by first | omega | (simp; done) | (simp; omega)) _ | refine Below.setCell ?_ (by first | omega | (simp; done) | (simp; omega)) _ | refine Below.trans ?_ (Below.mono (by assumption) (by first | omega | (simp; done) | (simp; omega))))))
    · have d2 : (p.budget != s.budget) = true := by simpa using h2
      clear h h1 h2
      go_enter Try.func27, Try.ntmps27
      (go_wp2_with fail; go_ret; exact retB (vbool HN.out.symm) (by repeat (first | exact Below.refl _ _ | assumption | refine Below.drew ?_ | refine below_drewN ?_ _ | refine Below.alloc ?_ (by first | omega | (simp; done) | (simp; omega)) _ | refine Below.setCell ?_ (by first | omega | (simp; done) | (simp; omega)) _ | refine Below.trans ?_ (Below.mono (by assumption) (by first | omega | (simp; done) | (simp; omega))))))
  · have d1 : (p.turn != s.turn) = true := by simpa using h1
    clear h h1
    go_enter Try.func27, Try.ntmps27
    (go_wp2_with fail; go_ret; exact retB (vbool HN.out.symm) (by repeat (first | exact Below.refl _ _ | assumption | refine Below.drew ?_ | refine below_drewN ?_ _ | refine Below.alloc ?_ (by first | omega | (simp; done) | (simp; omega)) _ | refine Below.setCell ?_ (by first | omega | (simp; done) | (simp; omega)) _ | refine Below.trans ?_ (Below.mono (by assumption) (by first | omega | (simp; done) | (simp; omega))))))
set_option maxRecDepth 100000 in
set_option maxHeartbeats 4000000 in
theorem same_yes (p s : Pos) (sa fa ta ga : Option Addr) (sc fc tc gc : Nat) (w : World) (hp : PsAt w p sa fa) (hs : PsAt w s ta ga) (h1 : p.turn = s.turn) (h2 : p.budget = s.budget) (h3 : p.starts.length = s.starts.length) (h4 : p.failed.length = s.failed.length) (h5 : p.starts.length ≤ 1000) (h6 : p.failed.length ≤ 1000) :
    Calls Try.prog 27 #[psV p sa sc fa fc, psV s ta tc ga gc] w (RetB (.bool (sameB p s)) w) := by
  have HP := Lib.hid hp
  have HS := Lib.hid hs
  have H1 := Lib.hid h1
  have H2 := Lib.hid h2
  obtain ⟨n, hn⟩ : ∃ n, n = p.starts.length := ⟨_, rfl⟩
  obtain ⟨m, hm⟩ : ∃ m, m = p.failed.length := ⟨_, rfl⟩
  unfold psV
  rw [← h3, ← h4, ← hn, ← hm]
  have H3 := Lib.hid (show s.starts.length = n by rw [hn, h3])
  have H4 := Lib.hid (show s.failed.length = m by rw [hm, h4])
  have H5 := Lib.hid hn
  have H6 := Lib.hid hm
  rw [← hn] at h5
  rw [← hm] at h6
  have d1 : (p.turn != s.turn) = false := by simpa using h1
  have d2 : (p.budget != s.budget) = false := by simpa using h2
  clear hp hs h1 h2 h3 h4 hn hm
  go_enter Try.func27, Try.ntmps27
  go_wp2_with fail
  obtain ⟨wx, hwx⟩ : ∃ wx, wx = ((w.alloc (Obj.cells #[.int .i64 p.turn, .slice sa n sc, .slice fa m fc, .int .i64 p.budget, .int .i64 p.choice, .int .i64 p.bound] 33)).alloc (Obj.cells #[.int .i64 s.turn, .slice ta n tc, .slice ga m gc, .int .i64 s.budget, .int .i64 s.choice, .int .i64 s.bound] 33)) := ⟨_, rfl⟩
  rw [← hwx]
  have hbx : Below w.heap.size w wx := by rw [hwx]; exact (by repeat (first | exact Below.refl _ _ | assumption | refine Below.drew ?_ | refine below_drewN ?_ _ | refine Below.alloc ?_ (by first | omega | (simp; done) | (simp; omega)) _ | refine Below.setCell ?_ (by first | omega | (simp; done) | (simp; omega)) _ | refine Below.trans ?_ (Below.mono (by assumption) (by first | omega | (simp; done) | (simp; omega)))))
  have b1 : wx.cell? ⟨w.heap.size, 1, none⟩ = some (.slice sa n sc) := by rw [hwx]; simp [go_sem]
  have b2 : wx.cell? ⟨w.heap.size, 2, none⟩ = some (.slice fa m fc) := by rw [hwx]; simp [go_sem]
  have c1 : wx.cell? ⟨w.heap.size + 1, 1, none⟩ = some (.slice ta n tc) := by rw [hwx]; simp [go_sem]
  have c2 : wx.cell? ⟨w.heap.size + 1, 2, none⟩ = some (.slice ga m gc) := by rw [hwx]; simp [go_sem]
  have HPX := Lib.hid (HP.out.later hbx)
  have HSX := Lib.hid (HS.out.later hbx)
  have hszx : w.heap.size + 1 < wx.heap.size := by rw [hwx]; simp
  clear hwx
  go_loopg [5] (n + 1) (fun k v5 wr => ∃ i : Nat, i ≤ n ∧ k + i = n + 1 ∧ v5 = .int .i64 i ∧ Below wx.heap.size wx wr ∧ ∀ r, r < i → ig p.starts r = ig s.starts r)
  case atStart => exact ⟨0, by omega, by omega, rfl, Below.refl _ _, fun r hr => absurd hr (by omega)⟩
  case round =>
    obtain ⟨i, hi, hki, rfl, hbr, hall⟩ := hrel
    have HA := Lib.hid hall
    have HBR := Lib.hid hbr
    clear hall
    have rb1 := cell_later hbr b1
    have rb2 := cell_later hbr b2
    have rc1 := cell_later hbr c1
    have rc2 := cell_later hbr c2
    have hszr := hbr.size
    clear hbr
    by_cases hlt : i < n
    · obtain ⟨pb, po, rfl, fp⟩ := HPX.out.s.fam (by rw [← H5.out]; omega)
      obtain ⟨tb, to, rfl, ft⟩ := HSX.out.s.fam (by rw [H3.out]; omega)
      have x1 := cell_later HBR.out (fp i (by rw [← H5.out]; exact hlt))
      have x2 := cell_later HBR.out (ft i (by rw [H3.out]; exact hlt))
      clear fp ft
      have z1 : (i : Int) < (n : Int) := by omega
      have z0 : (0 : Int) ≤ (i : Int) := by omega
      obtain ⟨u, hu⟩ : ∃ u, u = ig p.starts i := ⟨_, rfl⟩
      obtain ⟨v, hv⟩ : ∃ v, v = ig s.starts i := ⟨_, rfl⟩
      rw [← hu] at x1
      rw [← hv] at x2
      have HU := Lib.hid hu
      have HV := Lib.hid hv
      clear hu hv
      have hS : ∀ wy : World, Below wr.heap.size wr wy → wy.cell? ⟨w.heap.size, 1, none⟩ = some (.slice (some ⟨pb, po, none⟩) n sc) ∧ wy.cell? ⟨w.heap.size + 1, 1, none⟩ = some (.slice (some ⟨tb, to, none⟩) n tc) ∧ wy.cell? ⟨pb, po + i, none⟩ = some (.int .i64 u) ∧ wy.cell? ⟨tb, to + i, none⟩ = some (.int .i64 v) := fun wy hy => ⟨cell_later hy rb1, cell_later hy rc1, cell_later hy x1, cell_later hy x2⟩
      go_wp2_with fail
      refine wp_flow_s [] [] (by kernel_rfl) (by kernel_rfl) (by kernel_rfl) ?_
      repeat (first | ((with_reducible refine Flow.pure hS StayG.nil (v := ?_) ?_ ?_ ?_ ?_); rotate_left 1; (focus kernel_rfl); (focus (intro _; rfl)); (focus (intro β wx hSw; (try dsimp only at hSw); go_simp; (try with_reducible rfl); done)); (try simp only [Act.put, List.setIfInBounds_toArray, List.set_cons_zero, List.set_cons_succ, Nat.reduceAdd])))
      ((with_reducible refine Flow.stop ?_); dsimp only; intro β w8 hI)
      have hb8 := hI.below
      have HB8 := Lib.hid (HBR.out.trans (hb8.mono hszr))
      clear hS hI x1 x2 rb1 rb2 rc1 rc2 b1 b2 c1 c2 hb8
      by_cases huv : u = v
      · have e1 : (u != v) = false := by simpa using huv
        have HUV := Lib.hid huv
        clear huv
        go_wp2_with fail
        go_roundg (n - i)
        case measure => omega
        case rel => exact ⟨i + 1, by omega, by omega, by go_num, HB8.out, fun r hr => by
          rcases Nat.lt_succ_iff_lt_or_eq.1 hr with h | h
          · exact HA.out r h
          · subst h; rw [← HU.out, ← HV.out]; exact HUV.out⟩
      · have e1 : (u != v) = true := by simpa using huv
        have HN := Lib.hid (sameB_no (p := p) (s := s) fun ⟨_, h, _, _⟩ => huv (by rw [HU.out, HV.out, h]))
        clear huv
        go_wp2_with fail
        go_ret
        exact retB (vbool HN.out.symm) (hbx.trans (HB8.out.mono hbx.size))
    · obtain rfl : i = n := by omega
      have HST := Lib.hid (show p.starts = s.starts from ints_ext (by rw [← H5.out, H3.out]) fun j hj => HA.out j (by rw [H5.out]; exact hj))
      go_wp2_with fail
      go_loopg [6] (m + 1) (fun k v6 wr => ∃ i : Nat, i ≤ m ∧ k + i = m + 1 ∧ v6 = .int .i64 i ∧ Below wx.heap.size wx wr ∧ ∀ r, r < i → bg p.failed r = bg s.failed r)
      case atStart => exact ⟨0, by omega, by omega, rfl, HBR.out, fun r hr => absurd hr (by omega)⟩
      case round =>
        obtain ⟨i, hi', hki', rfl, hbr', hall'⟩ := hrel
        have HA' := Lib.hid hall'
        have HBR' := Lib.hid hbr'
        clear hall'
        have sb2 := cell_later hbr' b2
        have sc2 := cell_later hbr' c2
        have hszr' := hbr'.size
        clear hbr'
        by_cases hlt' : i < m
        · obtain ⟨pb, po, rfl, fp⟩ := HPX.out.f.fam (by rw [← H6.out]; omega)
          obtain ⟨tb, to, rfl, ft⟩ := HSX.out.f.fam (by rw [H4.out]; omega)
          have x1 := cell_later HBR'.out (fp i (by rw [← H6.out]; exact hlt'))
          have x2 := cell_later HBR'.out (ft i (by rw [H4.out]; exact hlt'))
          clear fp ft
          have z1 : (i : Int) < (m : Int) := by omega
          have z0 : (0 : Int) ≤ (i : Int) := by omega
          obtain ⟨u, hu⟩ : ∃ u, u = bg p.failed i := ⟨_, rfl⟩
          obtain ⟨v, hv⟩ : ∃ v, v = bg s.failed i := ⟨_, rfl⟩
          rw [← hu] at x1
          rw [← hv] at x2
          have HU := Lib.hid hu
          have HV := Lib.hid hv
          clear hu hv
          cases u
          · cases v
            · have hS : ∀ wy : World, Below wr.heap.size wr wy → wy.cell? ⟨w.heap.size, 2, none⟩ = some (.slice (some ⟨pb, po, none⟩) m fc) ∧ wy.cell? ⟨w.heap.size + 1, 2, none⟩ = some (.slice (some ⟨tb, to, none⟩) m gc) ∧ wy.cell? ⟨pb, po + i, none⟩ = some (.bool false) ∧ wy.cell? ⟨tb, to + i, none⟩ = some (.bool false) := fun wy hy => ⟨cell_later hy sb2, cell_later hy sc2, cell_later hy x1, cell_later hy x2⟩
              go_wp2_with fail
              refine wp_flow_s [] [] (by kernel_rfl) (by kernel_rfl) (by kernel_rfl) ?_
              repeat (first | ((with_reducible refine Flow.pure hS StayG.nil (v := ?_) ?_ ?_ ?_ ?_); rotate_left 1; (focus kernel_rfl); (focus (intro _; rfl)); (focus (intro β wx hSw; (try dsimp only at hSw); go_simp; (try with_reducible rfl); done)); (try simp only [Act.put, List.setIfInBounds_toArray, List.set_cons_zero, List.set_cons_succ, Nat.reduceAdd])))
              ((with_reducible refine Flow.stop ?_); dsimp only; intro β w8 hI)
              have hb8 := hI.below
              have HB8 := Lib.hid (HBR'.out.trans (hb8.mono hszr'))
              clear hS hI x1 x2 sb2 sc2 rb1 rb2 rc1 rc2 b1 b2 c1 c2 hb8
              go_wp2_with fail
              go_roundg (m - i)
              case measure => omega
              case rel => exact ⟨i + 1, by omega, by omega, by go_num, HB8.out, fun r hr => by
                rcases Nat.lt_succ_iff_lt_or_eq.1 hr with h | h
                · exact HA'.out r h
                · subst h; rw [← HU.out, ← HV.out]⟩
            · have hS : ∀ wy : World, Below wr.heap.size wr wy → wy.cell? ⟨w.heap.size, 2, none⟩ = some (.slice (some ⟨pb, po, none⟩) m fc) ∧ wy.cell? ⟨w.heap.size + 1, 2, none⟩ = some (.slice (some ⟨tb, to, none⟩) m gc) ∧ wy.cell? ⟨pb, po + i, none⟩ = some (.bool false) ∧ wy.cell? ⟨tb, to + i, none⟩ = some (.bool true) := fun wy hy => ⟨cell_later hy sb2, cell_later hy sc2, cell_later hy x1, cell_later hy x2⟩
              go_wp2_with fail
              refine wp_flow_s [] [] (by kernel_rfl) (by kernel_rfl) (by kernel_rfl) ?_
              repeat (first | ((with_reducible refine Flow.pure hS StayG.nil (v := ?_) ?_ ?_ ?_ ?_); rotate_left 1; (focus kernel_rfl); (focus (intro _; rfl)); (focus (intro β wx hSw; (try dsimp only at hSw); go_simp; (try with_reducible rfl); done)); (try simp only [Act.put, List.setIfInBounds_toArray, List.set_cons_zero, List.set_cons_succ, Nat.reduceAdd])))
              ((with_reducible refine Flow.stop ?_); dsimp only; intro β w8 hI)
              have hb8 := hI.below
              have HB8 := Lib.hid (HBR'.out.trans (hb8.mono hszr'))
              clear hS hI x1 x2 sb2 sc2 rb1 rb2 rc1 rc2 b1 b2 c1 c2 hb8
              have HN := Lib.hid (sameB_no (p := p) (s := s) fun ⟨_, _, h, _⟩ => absurd (show (false : Bool) = true by rw [HU.out, HV.out, h]) (by decide))
              go_wp2_with fail
              go_ret
              exact retB (vbool HN.out.symm) (hbx.trans (HB8.out.mono hbx.size))
          · cases v
            · have hS : ∀ wy : World, Below wr.heap.size wr wy → wy.cell? ⟨w.heap.size, 2, none⟩ = some (.slice (some ⟨pb, po, none⟩) m fc) ∧ wy.cell? ⟨w.heap.size + 1, 2, none⟩ = some (.slice (some ⟨tb, to, none⟩) m gc) ∧ wy.cell? ⟨pb, po + i, none⟩ = some (.bool true) ∧ wy.cell? ⟨tb, to + i, none⟩ = some (.bool false) := fun wy hy => ⟨cell_later hy sb2, cell_later hy sc2, cell_later hy x1, cell_later hy x2⟩
              go_wp2_with fail
              refine wp_flow_s [] [] (by kernel_rfl) (by kernel_rfl) (by kernel_rfl) ?_
              repeat (first | ((with_reducible refine Flow.pure hS StayG.nil (v := ?_) ?_ ?_ ?_ ?_); rotate_left 1; (focus kernel_rfl); (focus (intro _; rfl)); (focus (intro β wx hSw; (try dsimp only at hSw); go_simp; (try with_reducible rfl); done)); (try simp only [Act.put, List.setIfInBounds_toArray, List.set_cons_zero, List.set_cons_succ, Nat.reduceAdd])))
              ((with_reducible refine Flow.stop ?_); dsimp only; intro β w8 hI)
              have hb8 := hI.below
              have HB8 := Lib.hid (HBR'.out.trans (hb8.mono hszr'))
              clear hS hI x1 x2 sb2 sc2 rb1 rb2 rc1 rc2 b1 b2 c1 c2 hb8
              have HN := Lib.hid (sameB_no (p := p) (s := s) fun ⟨_, _, h, _⟩ => absurd (show (true : Bool) = false by rw [HU.out, HV.out, h]) (by decide))
              go_wp2_with fail
              go_ret
              exact retB (vbool HN.out.symm) (hbx.trans (HB8.out.mono hbx.size))
            · have hS : ∀ wy : World, Below wr.heap.size wr wy → wy.cell? ⟨w.heap.size, 2, none⟩ = some (.slice (some ⟨pb, po, none⟩) m fc) ∧ wy.cell? ⟨w.heap.size + 1, 2, none⟩ = some (.slice (some ⟨tb, to, none⟩) m gc) ∧ wy.cell? ⟨pb, po + i, none⟩ = some (.bool true) ∧ wy.cell? ⟨tb, to + i, none⟩ = some (.bool true) := fun wy hy => ⟨cell_later hy sb2, cell_later hy sc2, cell_later hy x1, cell_later hy x2⟩
              go_wp2_with fail
              refine wp_flow_s [] [] (by kernel_rfl) (by kernel_rfl) (by kernel_rfl) ?_
              repeat (first | ((with_reducible refine Flow.pure hS StayG.nil (v := ?_) ?_ ?_ ?_ ?_); rotate_left 1; (focus kernel_rfl); (focus (intro _; rfl)); (focus (intro β wx hSw; (try dsimp only at hSw); go_simp; (try with_reducible rfl); done)); (try simp only [Act.put, List.setIfInBounds_toArray, List.set_cons_zero, List.set_cons_succ, Nat.reduceAdd])))
              ((with_reducible refine Flow.stop ?_); dsimp only; intro β w8 hI)
              have hb8 := hI.below
              have HB8 := Lib.hid (HBR'.out.trans (hb8.mono hszr'))
              clear hS hI x1 x2 sb2 sc2 rb1 rb2 rc1 rc2 b1 b2 c1 c2 hb8
              go_wp2_with fail
              go_roundg (m - i)
              case measure => omega
              case rel => exact ⟨i + 1, by omega, by omega, by go_num, HB8.out, fun r hr => by
                rcases Nat.lt_succ_iff_lt_or_eq.1 hr with h | h
                · exact HA'.out r h
                · subst h; rw [← HU.out, ← HV.out]⟩
        · obtain rfl : i = m := by omega
          have HFT := Lib.hid (show p.failed = s.failed from bools_ext (by rw [← H6.out, H4.out]) fun j hj => HA'.out j (by rw [H6.out]; exact hj))
          have HY := Lib.hid (sameB_yes (p := p) (s := s) ⟨H1.out, HST.out, HFT.out, H2.out⟩)
          go_wp2_with fail
          go_ret
          exact retB (vbool HY.out.symm) (hbx.trans (HBR'.out.mono hbx.size))
theorem same_any (p s : Pos) (sa fa ta ga : Option Addr) (sc fc tc gc : Nat) (w : World) (hp : PsAt w p sa fa) (hs : PsAt w s ta ga) (h5 : p.starts.length ≤ 1000) (h6 : p.failed.length ≤ 1000) :
    Calls Try.prog 27 #[psV p sa sc fa fc, psV s ta tc ga gc] w (RetB (.bool (sameB p s)) w) := by
  by_cases h : p.turn = s.turn ∧ p.budget = s.budget ∧ p.starts.length = s.starts.length ∧ p.failed.length = s.failed.length
  · exact same_yes p s sa fa ta ga sc fc tc gc w hp hs h.1 h.2.1 h.2.2.1 h.2.2.2 h5 h6
  · exact same_no p s sa fa ta ga sc fc tc gc w h
end Go.Proofs.Ytghdfoolieagfaa
