

/- Contracts of package judge: made with a budget. -/
import Derived.Test.YtgccankekflchaaJdgG
namespace Go.Proofs.Ytgccankekflchaa
open Go.RowKit

theorem shl_or2 {F k : Nat} (hF : F < 64) (hk : k < 6) (h0 : F / 2 ^ k % 2 = 0) : bits .or .i64 (F : Int) (IntKind.i64.wrap (2 ^ k)) = ((F + 2 ^ k : Nat) : Int) := by
  have e : IntKind.i64.wrap ((2 : Int) ^ k) = ((2 ^ k : Nat) : Int) := by
    have : k = 0 ∨ k = 1 ∨ k = 2 ∨ k = 3 ∨ k = 4 ∨ k = 5 := by omega
    rcases this with rfl | rfl | rfl | rfl | rfl | rfl <;> decide
  rw [e]
  exact or_bit F hF k hk h0
theorem sitC_hit {s : St} {k : Nat} (hk : k < s.failed.length) (h : bg s.failed k = false) : sitC (hit s k) = [.int .i64 s.turn, .int .i64 (s.budget - 1), .int .i64 s.starts.length, .int .i64 (ig s.starts 0), .int .i64 (ig s.starts 1), .int .i64 (ig s.starts 2), .int .i64 (ig s.starts 3), .int .i64 (ig s.starts 4), .int .i64 (ig s.starts 5), .int .i64 ((bitsU s.failed s.failed.length : Int) + 2 ^ k)] := by
  unfold sitC hit
  have e : (bitsU (s.failed.set k true) (s.failed.set k true).length : Int) = (bitsU s.failed s.failed.length : Int) + 2 ^ k := by
    rw [List.length_set, bitsU_set hk h, if_pos hk]; push_cast; rfl
  simp only [e]
theorem hitting_len (s : St) (k : Nat) : (Hitting s k).length ≤ k + 1 := by
  unfold Hitting
  rw [List.length_cons, List.length_map]
  have := List.length_filter_le (fun v => !bg s.failed v) (List.range k)
  rw [List.length_range] at this
  omega
theorem SitBox.below {w w1 : World} {n B : Nat} {t b m s0 s1 s2 s3 s4 s5 f : Int} (h : SitBox w B t b m s0 s1 s2 s3 s4 s5 f) (hb : Below n w w1) (hn : B < n) : SitBox w1 B t b m s0 s1 s2 s3 s4 s5 f :=
  ⟨(hb.cell hn).trans h.c0, (hb.cell hn).trans h.c1, (hb.cell hn).trans h.c2, (hb.cell hn).trans h.c3, (hb.cell hn).trans h.c4, (hb.cell hn).trans h.c5, (hb.cell hn).trans h.c6, (hb.cell hn).trans h.c7, (hb.cell hn).trans h.c8, (hb.cell hn).trans h.c9, fun j hj => (hb.frozen (p := ⟨B, j, none⟩) hn).trans (h.fr j hj)⟩
set_option maxRecDepth 100000 in
set_option maxHeartbeats 4000000 in
theorem made_yes (s : St) (w : World) (hf : Fit6 s) (hb : 0 < s.budget) (hbu : s.budget ≤ 1000000) : Calls Try.prog 35 #[sitV s] w (MadeR s w) := by
  have hm := hf.m
  have d1 : decide ((0 : Int) < s.budget) = true := decide_eq_true (by omega)
  have HN := Lib.hid (hitting_all hb)
  have HFL := Lib.hid hf.f
  have HB := Lib.hid hb
  clear hb
  unfold sitV
  go_enter Try.func35, Try.ntmps35
  go_wp2_with fail
  obtain ⟨wx, hwx⟩ : ∃ wx, wx = (w.alloc (Obj.cells #[.int .i64 s.turn, .int .i64 s.budget, .int .i64 s.starts.length, .int .i64 (ig s.starts 0), .int .i64 (ig s.starts 1), .int .i64 (ig s.starts 2), .int .i64 (ig s.starts 3), .int .i64 (ig s.starts 4), .int .i64 (ig s.starts 5), .int .i64 (bitsU s.failed s.failed.length)] 76)).alloc (Obj.cells #[.int .i64 s.turn, .int .i64 s.budget, .int .i64 s.starts.length, .int .i64 (ig s.starts 0), .int .i64 (ig s.starts 1), .int .i64 (ig s.starts 2), .int .i64 (ig s.starts 3), .int .i64 (ig s.starts 4), .int .i64 (ig s.starts 5), .int .i64 (bitsU s.failed s.failed.length)] 76) := ⟨_, rfl⟩
  rw [← hwx]
  have hbx : Below w.heap.size w wx := by rw [hwx]; exact (by repeat (first | exact Below.refl _ _ | assumption | refine Below.drew ?_ | refine below_drewN ?_ _ | refine Below.alloc ?_ (by first | omega | (simp; done) | (simp; omega)) _ | refine Below.setCell ?_ (by first | omega | (simp; done) | (simp; omega)) _ | refine Below.trans ?_ (Below.mono (by assumption) (by first | omega | (simp; done) | (simp; omega)))))
  have x1 : SitBox wx w.heap.size s.turn s.budget s.starts.length (ig s.starts 0) (ig s.starts 1) (ig s.starts 2) (ig s.starts 3) (ig s.starts 4) (ig s.starts 5) (bitsU s.failed s.failed.length) := by rw [hwx]; constructor <;> first | (simp [go_sem]; done) | (intro j _; simp [go_sem])
  have o1 : OwnS wx (w.heap.size + 1) (.slice (some ⟨w.heap.size + 1, 0, none⟩) 1 1) (Hitting s 0) := by
    have := own_first (w.alloc (Obj.cells #[.int .i64 s.turn, .int .i64 s.budget, .int .i64 s.starts.length, .int .i64 (ig s.starts 0), .int .i64 (ig s.starts 1), .int .i64 (ig s.starts 2), .int .i64 (ig s.starts 3), .int .i64 (ig s.starts 4), .int .i64 (ig s.starts 5), .int .i64 (bitsU s.failed s.failed.length)] 76)) s (w.heap.size + 1) (by simp)
    rw [World.size_alloc] at this
    rw [hwx]
    exact this
  have sz1 : w.heap.size + 1 < wx.heap.size := by rw [hwx]; simp
  clear hwx
  have X1 := Lib.hid x1
  have O1 := Lib.hid o1
  have c1 := x1.c1
  have c2 := x1.c2
  clear x1 o1
  go_loopg [3, 4] (s.starts.length + 1) (fun g v3 v4 wr => ∃ k : Nat, k ≤ s.starts.length ∧ g + k = s.starts.length + 1 ∧ v4 = .int .i64 k ∧ Below w.heap.size w wr ∧ SitBox wr w.heap.size s.turn s.budget s.starts.length (ig s.starts 0) (ig s.starts 1) (ig s.starts 2) (ig s.starts 3) (ig s.starts 4) (ig s.starts 5) (bitsU s.failed s.failed.length) ∧ w.heap.size + 1 < wr.heap.size ∧ OwnS wr (w.heap.size + 1) v3 (Hitting s k))
  case atStart => exact ⟨0, by omega, by omega, rfl, hbx, X1.out, sz1, O1.out⟩
  case round =>
    obtain ⟨k, hk, hkk, rfl, bl, sb, szr, ow⟩ := hrel
    have c1' := sb.c1
    have c2' := sb.c2
    rcases Nat.lt_or_ge k s.starts.length with hlt | hge
    · have dk : decide ((k : Int) < (s.starts.length : Int)) = true := decide_eq_true (by omega)
      have k0 := sb.c0
      have k3 := sb.c3
      have k4 := sb.c4
      have k5 := sb.c5
      have k6 := sb.c6
      have k7 := sb.c7
      have k8 := sb.c8
      have k9 := sb.c9
      have hat := bitsU_at s.failed s.failed.length (v := k) (by rw [HFL.out]; exact hlt)
      have hand : bits .and .i64 ((bitsU s.failed s.failed.length : Int) / 2 ^ k) 1 = ((bitsU s.failed s.failed.length / 2 ^ k % 2 : Nat) : Int) := by rw [and_one]; norm_cast
      rw [hat] at hand
      clear hat
      have SB := Lib.hid sb
      have OW := Lib.hid ow
      clear sb ow
      cases hbk : bg s.failed k
      · rw [hbk] at hand
        have HK := Lib.hid hbk
        clear hbk
        have dz : ((((if false = true then 1 else 0 : Nat) : Int)) == 0) = true := rfl
        go_wp2_with fail
        have hwb : wrap64 (s.budget - 1) = s.budget - 1 := by have := HB.out; first | go_num | (unfold wrap64; omega)
        rw [hwb]
        clear hwb
        obtain ⟨wy, hwy⟩ : ∃ wy, wy = wr.alloc (Obj.cells #[.int .i64 s.turn, .int .i64 (s.budget - 1), .int .i64 s.starts.length, .int .i64 (ig s.starts 0), .int .i64 (ig s.starts 1), .int .i64 (ig s.starts 2), .int .i64 (ig s.starts 3), .int .i64 (ig s.starts 4), .int .i64 (ig s.starts 5), .int .i64 (bitsU s.failed s.failed.length)] 76) := ⟨_, rfl⟩
        rw [← hwy]
        have by0 : Below wr.heap.size wr wy := by rw [hwy]; exact (by repeat (first | exact Below.refl _ _ | assumption | refine Below.drew ?_ | refine below_drewN ?_ _ | refine Below.alloc ?_ (by first | omega | (simp; done) | (simp; omega)) _ | refine Below.setCell ?_ (by first | omega | (simp; done) | (simp; omega)) _ | refine Below.trans ?_ (Below.mono (by assumption) (by first | omega | (simp; done) | (simp; omega)))))
        have y1 : SitBox wy wr.heap.size s.turn (s.budget - 1) s.starts.length (ig s.starts 0) (ig s.starts 1) (ig s.starts 2) (ig s.starts 3) (ig s.starts 4) (ig s.starts 5) (bitsU s.failed s.failed.length) := by rw [hwy]; constructor <;> first | (simp [go_sem]; done) | (intro j _; simp [go_sem])
        have szy : wr.heap.size < wy.heap.size := by rw [hwy]; simp
        clear hwy k0 k3 k4 k5 k6 k7 k8 k9 c1 c2 c1' c2' hand dz d1
        have q9 := y1.c9
        have f9 := y1.fr 9 (by decide)
        have Y1 := Lib.hid y1
        clear y1
        have hS : ∀ wz : World, Below wy.heap.size wy wz → wz.cell? ⟨wr.heap.size, 9, none⟩ = some (.int .i64 (bitsU s.failed s.failed.length)) := fun wz hz => cell_later hz q9
        have g1 : (k : Int) < (s.starts.length : Int) := by omega
        have g0 : (0 : Int) ≤ (k : Int) := by omega
        (refine wp_flow_n 6 _ [] [] (fun w' w'' => w'' = w'.setCell ⟨wr.heap.size, 9, none⟩ (.int .i64 ((bitsU s.failed s.failed.length + 2 ^ k : Nat) : Int))) (undef) (by rfl) (by kernel_rfl) (by kernel_rfl) (by kernel_rfl) (by kernel_rfl) ?_); simp only [List.take_succ_cons, List.take_zero]
        repeat (first | ((with_reducible refine Flow.pure hS StayG.nil (v := ?_) ?_ ?_ ?_ ?_); rotate_left 1; (focus kernel_rfl); (focus (intro _; rfl)); (focus (intro β wx hSw; (try dsimp only at hSw); go_simp; (try with_reducible rfl); done)); (try simp only [Act.put, List.setIfInBounds_toArray, List.set_cons_zero, List.set_cons_succ, Nat.reduceAdd])))
        ((with_reducible refine Flow.stop ?_); dsimp only; intro β6 w6 hI6)
        have hb6 := hI6.below
        have hs6 := hb6.size
        have r9 := cell_later hb6 q9
        have rf := (hb6.frozen (p := ⟨wr.heap.size, 9, none⟩) Y1.out.lt).trans f9
        have hF : bitsU s.failed s.failed.length < 64 := Nat.lt_of_lt_of_le (bitsU_lt _ _) (Nat.pow_le_pow_right (by decide) (by rw [HFL.out]; exact hm) : 2 ^ s.failed.length ≤ 2 ^ 6)
        have hbit := shl_or2 hF (show k < 6 by omega) (by rw [bitsU_at s.failed s.failed.length (v := k) (by rw [HFL.out]; exact hlt), HK.out]; rfl)
        rw [hbit]
        clear hbit hF
        refine ⟨rfl, fun K' hK => ?_, fun w7 hE => ?_⟩
        · go_simp
          exact hK.out _ rfl
        · have Y2 := (Y1.out.later hb6).bits ((bitsU s.failed s.failed.length + 2 ^ k : Nat) : Int)
          have byr : Below wr.heap.size wr w7 := by rw [hE]; exact (by0.trans (hb6.mono (by omega))).setCell (Nat.le_refl _) _
          rw [← hE] at Y2
          have sz7 : wr.heap.size < w7.heap.size := Y2.lt
          clear hE hS hI6 hb6 r9 rf q9 f9
          have k0 := Y2.c0
          have k1 := Y2.c1
          have k2 := Y2.c2
          have k3 := Y2.c3
          have k4 := Y2.c4
          have k5 := Y2.c5
          have k6 := Y2.c6
          have k7 := Y2.c7
          have k8 := Y2.c8
          have k9 := Y2.c9
          have Y3 := Lib.hid Y2
          clear Y2
          (try simp only [Act.put, List.setIfInBounds_toArray, List.set_cons_zero, List.set_cons_succ, Nat.reduceAdd])
          have HC := Lib.hid (sitC_hit (by rw [HFL.out]; exact hlt) HK.out)
          have HL := hitting_len s k
          have ow7 := OW.out.later byr
          go_wp2_with (at_builtin; refine append_sit _ rfl _ _ rfl (w.heap.size + 1) u3 (Hitting s k) (hit s k) rfl ?_ _ _ rfl ?_ (by omega) ?_ ?_; exact ow7.later (by repeat (first | exact Below.refl _ _ | assumption | refine Below.drew ?_ | refine below_drewN ?_ _ | refine Below.alloc ?_ (by first | omega | (simp; done) | (simp; omega)) _ | refine Below.setCell ?_ (by first | omega | (simp; done) | (simp; omega)) _ | refine Below.trans ?_ (Below.mono (by assumption) (by first | omega | (simp; done) | (simp; omega))))); rw [HC.out]; (intro j u hu; match j, hu with | 0, hu => (simp at hu; subst hu; simp [go_sem]) | 1, hu => (simp at hu; subst hu; simp [go_sem]) | 2, hu => (simp at hu; subst hu; simp [go_sem]) | 3, hu => (simp at hu; subst hu; simp [go_sem]) | 4, hu => (simp at hu; subst hu; simp [go_sem]) | 5, hu => (simp at hu; subst hu; simp [go_sem]) | 6, hu => (simp at hu; subst hu; simp [go_sem]) | 7, hu => (simp at hu; subst hu; simp [go_sem]) | 8, hu => (simp at hu; subst hu; simp [go_sem]) | 9, hu => (simp at hu; subst hu; simp [go_sem]) | n + 10, hu => simp at hu); (simp; omega); intro v2 w2 hi2 hg2)
          have ow8 := ow7.later (w1 := w7.alloc (.cells #[.int .i64 s.turn, .int .i64 (s.budget - 1), .int .i64 s.starts.length, .int .i64 (ig s.starts 0), .int .i64 (ig s.starts 1), .int .i64 (ig s.starts 2), .int .i64 (ig s.starts 3), .int .i64 (ig s.starts 4), .int .i64 (ig s.starts 5), .int .i64 ((bitsU s.failed s.failed.length : Int) + 2 ^ k)] 76)) (by repeat (first | exact Below.refl _ _ | assumption | refine Below.drew ?_ | refine below_drewN ?_ _ | refine Below.alloc ?_ (by first | omega | (simp; done) | (simp; omega)) _ | refine Below.setCell ?_ (by first | omega | (simp; done) | (simp; omega)) _ | refine Below.trans ?_ (Below.mono (by assumption) (by first | omega | (simp; done) | (simp; omega)))))
          have hbx8 : Below wr.heap.size wr (w7.alloc (.cells #[.int .i64 s.turn, .int .i64 (s.budget - 1), .int .i64 s.starts.length, .int .i64 (ig s.starts 0), .int .i64 (ig s.starts 1), .int .i64 (ig s.starts 2), .int .i64 (ig s.starts 3), .int .i64 (ig s.starts 4), .int .i64 (ig s.starts 5), .int .i64 ((bitsU s.failed s.failed.length : Int) + 2 ^ k)] 76)) := byr.trans (Below.mono (show Below w7.heap.size w7 (w7.alloc (.cells #[.int .i64 s.turn, .int .i64 (s.budget - 1), .int .i64 s.starts.length, .int .i64 (ig s.starts 0), .int .i64 (ig s.starts 1), .int .i64 (ig s.starts 2), .int .i64 (ig s.starts 3), .int .i64 (ig s.starts 4), .int .i64 (ig s.starts 5), .int .i64 ((bitsU s.failed s.failed.length : Int) + 2 ^ k)] 76)) from (by repeat (first | exact Below.refl _ _ | assumption | refine Below.drew ?_ | refine below_drewN ?_ _ | refine Below.alloc ?_ (by first | omega | (simp; done) | (simp; omega)) _ | refine Below.setCell ?_ (by first | omega | (simp; done) | (simp; omega)) _ | refine Below.trans ?_ (Below.mono (by assumption) (by first | omega | (simp; done) | (simp; omega)))))) (by omega))
          have hbz := (hbx8.mono (show w.heap.size + 1 ≤ wr.heap.size by omega)).grown hg2 (by simp; omega) (fun k hk => (World.ownsRow.lt ow8 k hk).1)
          have hsz := hbz.size
          go_wp2_with fail
          go_roundg (s.starts.length - k)
          case measure => omega
          case rel => exact ⟨k + 1, by omega, by omega, by go_num, bl.trans (hbz.mono (by omega)), SB.out.below hbz (by omega), by omega, by rw [hitting_succ, HK.out]; exact hi2⟩
      · rw [hbk] at hand
        have HK := Lib.hid hbk
        clear hbk
        have dz : ((((if true = true then 1 else 0 : Nat) : Int)) == 0) = false := rfl
        go_wp2_with fail
        go_roundg (s.starts.length - k)
        case measure => omega
        case rel => exact ⟨k + 1, by omega, by omega, by go_num, bl.trans (by repeat (first | exact Below.refl _ _ | assumption | refine Below.drew ?_ | refine below_drewN ?_ _ | refine Below.alloc ?_ (by first | omega | (simp; done) | (simp; omega)) _ | refine Below.setCell ?_ (by first | omega | (simp; done) | (simp; omega)) _ | refine Below.trans ?_ (Below.mono (by assumption) (by first | omega | (simp; done) | (simp; omega))))), SB.out.later (by repeat (first | exact Below.refl _ _ | assumption | refine Below.drew ?_ | refine below_drewN ?_ _ | refine Below.alloc ?_ (by first | omega | (simp; done) | (simp; omega)) _ | refine Below.setCell ?_ (by first | omega | (simp; done) | (simp; omega)) _ | refine Below.trans ?_ (Below.mono (by assumption) (by first | omega | (simp; done) | (simp; omega))))), by simp; omega, by
          rw [hitting_succ, HK.out]
          simp only [if_true, List.append_nil]
          exact OW.out.later (by repeat (first | exact Below.refl _ _ | assumption | refine Below.drew ?_ | refine below_drewN ?_ _ | refine Below.alloc ?_ (by first | omega | (simp; done) | (simp; omega)) _ | refine Below.setCell ?_ (by first | omega | (simp; done) | (simp; omega)) _ | refine Below.trans ?_ (Below.mono (by assumption) (by first | omega | (simp; done) | (simp; omega)))))⟩
    · have dk : decide ((k : Int) < (s.starts.length : Int)) = false := decide_eq_false (by omega)
      have ek : k = s.starts.length := by omega
      subst ek
      go_wp2_with fail
      go_ret
      exact ⟨_, rfl, by rw [← HN.out, HFL.out]; exact ow, bl⟩
theorem made_at (s : St) (w : World) (hf : Fit6 s) (hbu : s.budget ≤ 1000000) : Calls Try.prog 35 #[sitV s] w (MadeR s w) :=
  (Int.lt_or_le 0 s.budget).elim (fun h => made_yes s w hf h hbu) (fun h => made_no s w hf (Int.not_lt_of_ge h))
end Go.Proofs.Ytgccankekflchaa

