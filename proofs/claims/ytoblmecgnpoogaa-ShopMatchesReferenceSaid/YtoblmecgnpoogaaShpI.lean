

/- Package shop: Plan's closure over the tasks. -/
import Derived.Test.YtoblmecgnpoogaaShpF
import Derived.Test.YtoblmecgnpoogaaShpH
namespace Go.Proofs.Ytoblmecgnpoogaa
open Go.RowKit

noncomputable def canB (s : Sh) (t : Tk) : Bool := fitsB (addL ld0 t.skill.toNat t.bay 1) s
theorem ld0_S : LdS ld0 := ⟨fun j => by rw [ld0_ig]; omega, by show -1000 ≤ (0 : Int) ∧ (0 : Int) ≤ 1000; omega⟩
set_option maxRecDepth 100000 in
set_option maxHeartbeats 4000000 in
theorem plan1_any (t : Tk) (a : Option Addr) (cap : Nat) (s : Sh) (sa : Option Addr) (sc P3 : Nat) (w : World) (hI : Ints w sa s.staff) (h0 : 0 ≤ t.skill) (h8 : t.skill < 8)
    (c0 : w.cell? ⟨P3, 0, none⟩ = some (.slice sa s.staff.length sc)) (c1 : w.cell? ⟨P3, 1, none⟩ = some (.int .i64 s.bays)) :
    Calls Try.prog 26 #[tkV t a cap, .pointer (some ⟨P3, 0, none⟩)] w (RetB (.bool (!canB s t)) w) := by
  obtain ⟨sk, hsk⟩ : ∃ n : Nat, t.skill = n := ⟨t.skill.toNat, by omega⟩
  have hcan : canB s t = fitsB (addL ld0 sk t.bay 1) s := by unfold canB; rw [hsk]; rfl
  obtain ⟨r, hr⟩ : ∃ r, r = canB s t := ⟨_, rfl⟩
  rw [← hr] at hcan ⊢
  obtain ⟨y, hy⟩ : ∃ y, y = addL ld0 sk t.bay 1 := ⟨_, rfl⟩
  rw [← hy] at hcan
  obtain ⟨n, hn⟩ : ∃ n, n = s.staff.length := ⟨_, rfl⟩
  obtain ⟨bs, hbs⟩ : ∃ n, n = s.bays := ⟨_, rfl⟩
  have HAD := Lib.hid (show ∀ wy, Calls Try.prog 27 #[.agg #[.int .i64 0, .int .i64 0, .int .i64 0, .int .i64 0, .int .i64 0, .int .i64 0, .int .i64 0, .int .i64 0, .int .i64 0], .agg #[.int .i64 t.hours, .int .i64 t.skill, .bool t.bay, .slice a t.after.length cap], .int .i64 1] wy (RetB (ldV y) wy) from fun wy => by
    rw [hy]
    exact add_any ld0 t a cap sk 1 wy hsk (by omega) ld0_S (.inl rfl))
  have HFI := Lib.hid (show ∀ wy, Below w.heap.size w wy → Calls Try.prog 28 #[ldV y, .agg #[.slice sa n sc, .int .i64 bs]] wy (RetB (.bool r) wy) from fun wy hw => by
    rw [hcan, hn, hbs]
    exact fits_any y s sa sc wy (hI.later hw))
  rw [← hn] at c0
  rw [← hbs] at c1
  unfold tkV
  have hP3 : P3 < w.heap.size := World.block_lt_of_cell? _ _ c0
  clear hcan hr hy hn hbs hI h0 h8 hsk
  go_enter Try.func26, Try.ntmps26
  go_upto_region 1 with fail
  obtain ⟨w1, T, hTX, hb1, hB1, hw1⟩ : ∃ w1 T, T = w.heap.size ∧ Below w.heap.size w w1 ∧ BoxAt w1 T [.int .i64 t.hours, .int .i64 t.skill, .bool t.bay, .slice a t.after.length cap] ∧ w1 = w.alloc (.cells #[.int .i64 t.hours, .int .i64 t.skill, .bool t.bay, .slice a t.after.length cap] 38) := ⟨_, _, rfl, (Below.refl _ _).alloc (Nat.le_refl _) _, BoxAt.new w _ _, rfl⟩
  rw [← hw1, ← hTX]
  have t0 := (hB1 0 _ rfl).1
  have t1 := (hB1 1 _ rfl).1
  have t2 := (hB1 2 _ rfl).1
  have t3 := (hB1 3 _ rfl).1
  have d0 := cell_later hb1 c0
  have d1 := cell_later hb1 c1
  have HB1 := Lib.hid hb1
  have hS : ∀ wy : World, Below w1.heap.size w1 wy → wy.cell? ⟨T, 0, none⟩ = some (.int .i64 t.hours) ∧ wy.cell? ⟨T, 1, none⟩ = some (.int .i64 t.skill) ∧ wy.cell? ⟨T, 2, none⟩ = some (.bool t.bay) ∧ wy.cell? ⟨T, 3, none⟩ = some (.slice a t.after.length cap) ∧ wy.cell? ⟨P3, 0, none⟩ = some (.slice sa n sc) ∧ wy.cell? ⟨P3, 1, none⟩ = some (.int .i64 bs) := fun wy hy => ⟨cell_later hy t0, cell_later hy t1, cell_later hy t2, cell_later hy t3, cell_later hy d0, cell_later hy d1⟩
  clear hw1 hTX hb1 hB1 t0 t1 t2 t3 d0 d1 c0 c1
  refine wp_flow_s [] [] (by kernel_rfl) (by kernel_rfl) (by kernel_rfl) ?_
  repeat (first | ((with_reducible refine Flow.pure hS StayG.nil (v := ?_) ?_ ?_ ?_ ?_); rotate_left 1; (focus kernel_rfl); (focus (intro _; rfl)); (focus (intro β wx hSw; (try dsimp only at hSw); go_simp; (try with_reducible rfl); done)); (try simp only [Act.put, List.setIfInBounds_toArray, List.set_cons_zero, List.set_cons_succ, Nat.reduceAdd])) | ((with_reducible refine Flow.call hS StayG.nil (v := ?_) ?_ ?_ ?_ ?_); rotate_left 1; (focus kernel_rfl); (focus (intro _; rfl)); (focus (intro β L wx hI hat hSw K' hK; (try dsimp only at hSw); go_simp; go_at_call 27; refine Calls.mono (HAD.out wx) ?_; rintro e w' ⟨rfl, hb'⟩; exact hK.out _ hb')); (try simp only [Act.put, List.setIfInBounds_toArray, List.set_cons_zero, List.set_cons_succ, Nat.reduceAdd])) | ((with_reducible refine Flow.call hS StayG.nil (v := ?_) ?_ ?_ ?_ ?_); rotate_left 1; (focus kernel_rfl); (focus (intro _; rfl)); (focus (intro β L wx hI hat hSw K' hK; (try dsimp only at hSw); go_simp; go_at_call 28; refine Calls.mono (HFI.out wx (HB1.out.trans (hI.below.mono HB1.out.size))) ?_; rintro e w' ⟨rfl, hb'⟩; exact hK.out _ hb')); (try simp only [Act.put, List.setIfInBounds_toArray, List.set_cons_zero, List.set_cons_succ, Nat.reduceAdd])))
  ((with_reducible refine Flow.stop ?_); dsimp only; intro β w9 hI9)
  have HB9 := Lib.hid (HB1.out.trans (hI9.below.mono HB1.out.size))
  clear hS hI9
  go_wp2_with fail
  go_ret
  exact retB rfl HB9.out
def upTo (n : Nat) : List Int := (List.range n).map fun k : Nat => (k : Int)
theorem upTo_len (n : Nat) : (upTo n).length = n := by simp [upTo]
theorem upTo_ig {n r : Nat} (h : r < n) : ig (upTo n) r = r := by
  rw [ig_lt (by rw [upTo_len]; exact h)]
  simp [upTo]
def fstT (P : Tk → Bool) (l : List Tk) : Int := fstI (fun x => P (tg l x.toNat)) (upTo l.length)
theorem fstT_at {P : Tk → Bool} {l : List Tk} {q : Nat} (hq : q < l.length) (h : ∀ r, r < q → P (tg l r) = false) (h' : P (tg l q) = true) : fstT P l = q :=
  fstI_at (by rw [upTo_len]; exact hq) (fun r hr => by rw [upTo_ig (by omega), Int.toNat_natCast]; exact h r hr) (by rw [upTo_ig hq, Int.toNat_natCast]; exact h')
theorem fstT_none {P : Tk → Bool} {l : List Tk} (h : ∀ r, r < l.length → P (tg l r) = false) : fstT P l = -1 :=
  fstI_none fun r hr => by
    rw [upTo_len] at hr
    rw [upTo_ig hr, Int.toNat_natCast]
    exact h r hr
theorem tg_mem {l : List Tk} {r : Nat} (h : r < l.length) : tg l r ∈ l := by
  unfold tg
  rw [List.getD_eq_getElem?_getD, List.getElem?_eq_getElem h]
  exact List.getElem_mem h
theorem tg_lt {l : List Tk} {r : Nat} (h : r < l.length) : tg l r = l[r] := by
  unfold tg
  rw [List.getD_eq_getElem?_getD, List.getElem?_eq_getElem h]
  rfl
theorem fstT_any (P : Tk → Bool) (l : List Tk) : decide (fstT P l ≥ 0) = l.any P := by
  by_cases h : ∀ r, r < l.length → P (tg l r) = false
  · rw [fstT_none h]
    symm
    rw [List.any_eq_false.2]
    · rfl
    · intro x hx
      obtain ⟨i, hi, rfl⟩ := List.getElem_of_mem hx
      have := h i hi
      rw [tg_lt hi] at this
      simp [this]
  · have : ∃ r, r < l.length ∧ P (tg l r) = true := by
      refine Classical.byContradiction fun hn => h fun r hr => ?_
      cases hb : P (tg l r)
      · rfl
      · exact absurd ⟨r, hr, hb⟩ hn
    obtain ⟨r, hr, hb⟩ := this
    have e2 : l.any P = true := List.any_eq_true.2 ⟨_, tg_mem hr, hb⟩
    rw [e2]
    unfold fstT
    rw [fstI_any]
    exact List.any_eq_true.2 ⟨(r : Int), by rw [← upTo_ig hr]; exact ig_mem (by rw [upTo_len]; exact hr), by rw [Int.toNat_natCast]; exact hb⟩
set_option maxRecDepth 100000 in
set_option maxHeartbeats 1000000 in
theorem index_can (l : List Tk) (P : Tk → Bool) (c1 : Value) (a : Option Addr) (cap : Nat) (w : World) (hL : Tasks w a l) (hl : l.length < 9223372036854775807)
    (hP : ∀ wy, Below w.heap.size w wy → ∀ r, r < l.length → ∀ aa ac, Calls Try.prog 26 #[tkV (tg l r) aa ac, c1] wy (RetB (.bool (P (tg l r))) wy)) :
    Calls Try.prog 45 #[.slice a l.length cap, .func (.func 26) #[] #[c1]] w (RetB (.int .i64 (fstT P l)) w) := by
  have HP := Lib.hid hP
  have HL := Lib.hid hL
  obtain ⟨res, hres⟩ : ∃ res, res = fstT P l := ⟨_, rfl⟩
  have HRES := Lib.hid hres
  rw [← hres]
  clear hP hres hL
  go_enter Try.func45, Try.ntmps45
  go_wp2
  go_loopg [8] (l.length + 1) (fun k v8 wr => ∃ q : Nat, q ≤ l.length ∧ k + q = l.length + 1 ∧ v8 = .int .i64 q ∧ Below w.heap.size w wr ∧ ∀ r, r < q → P (tg l r) = false)
  case atStart => exact ⟨0, by omega, by omega, rfl, Below.refl _ _, fun r hr => absurd hr (by omega)⟩
  case round =>
    obtain ⟨q, hq, hk, rfl, hbr, hall⟩ := hrel
    have HBR := Lib.hid hbr
    have HA := Lib.hid hall
    clear hall
    by_cases hlt : q < l.length
    · obtain ⟨tb, to, aa, ac, rfl, b0, b1, b2, b3, _⟩ := (HL.out.later hbr) q hlt
      have hp := HP.out wr hbr q hlt aa ac
      obtain ⟨x, hx⟩ : ∃ x, x = tg l q := ⟨_, rfl⟩
      rw [← hx] at b0 b1 b2 b3 hp
      have HX := Lib.hid hx
      have HPX := Lib.hid hp
      have n1 : (q : Int) < (l.length : Int) := by omega
      have n0 : (0 : Int) ≤ (q : Int) := by omega
      clear hx hp
      cases hd : P x
      · have HD := Lib.hid (show P (tg l q) = false from by rw [← HX.out]; exact hd)
        go_wp2_with fail
        refine Calls.mono HPX.out ?_
        rintro e w1 ⟨rfl, hb1⟩
        have HB1 := Lib.hid (HBR.out.trans (hb1.mono HBR.out.size))
        clear hb1
        rw [hd]
        clear hd
        go_wp2
        go_roundg (gk - 1)
        case measure => omega
        case rel => exact ⟨q + 1, by omega, by omega, by go_num, HB1.out, fun r hr => by
          rcases Nat.lt_succ_iff_lt_or_eq.1 hr with h | h
          · exact HA.out r h
          · subst h; exact HD.out⟩
      · have HE := Lib.hid (show res = (q : Int) from HRES.out.trans (fstT_at hlt HA.out (by rw [← HX.out]; exact hd)))
        go_wp2_with fail
        refine Calls.mono HPX.out ?_
        rintro e w1 ⟨rfl, hb1⟩
        have HB1 := Lib.hid (HBR.out.trans (hb1.mono HBR.out.size))
        clear hb1
        rw [hd]
        clear hd
        go_wp2
        go_ret
        exact retB (vint HE.out.symm) HB1.out
    · have HE := Lib.hid (show res = -1 from HRES.out.trans (fstT_none fun r hr => HA.out r (by omega)))
      go_wp2
      go_ret
      exact retB (vint HE.out.symm) HBR.out
set_option maxHeartbeats 1000000 in
theorem contains_can (l : List Tk) (P : Tk → Bool) (c1 : Value) (a : Option Addr) (cap : Nat) (w : World) (hL : Tasks w a l) (hl : l.length < 9223372036854775807)
    (hP : ∀ wy, Below w.heap.size w wy → ∀ r, r < l.length → ∀ aa ac, Calls Try.prog 26 #[tkV (tg l r) aa ac, c1] wy (RetB (.bool (P (tg l r))) wy)) :
    Calls Try.prog 25 #[.slice a l.length cap, .func (.func 26) #[] #[c1]] w (RetB (.bool (l.any P)) w) := by
  have HC := Lib.hid (index_can l P c1 a cap w hL hl hP)
  have HR := Lib.hid (fstT_any P l)
  clear hP
  go_enter Try.func25, Try.ntmps25
  go_wp2_with fail
  refine Calls.mono HC.out ?_
  rintro e w1 ⟨rfl, hb1⟩
  have HB1 := Lib.hid hb1
  clear hb1
  go_wp2
  go_ret
  exact retB (vbool HR.out) HB1.out
/-- can every task be done in this shop? -/
theorem cans_any (l : List Tk) (a : Option Addr) (cap : Nat) (s : Sh) (sa : Option Addr) (sc P3 : Nat) (w : World) (hT : Tasks w a l) (hv : VT l) (hI : Ints w sa s.staff)
    (c0 : w.cell? ⟨P3, 0, none⟩ = some (.slice sa s.staff.length sc)) (c1 : w.cell? ⟨P3, 1, none⟩ = some (.int .i64 s.bays)) :
    Calls Try.prog 25 #[.slice a l.length cap, .func (.func 26) #[] #[.pointer (some ⟨P3, 0, none⟩)]] w (RetB (.bool (l.any fun t => !canB s t)) w) :=
  contains_can l (fun t => !canB s t) _ a cap w hT (by have := hv.1; omega) fun wy hy r hr aa ac =>
    plan1_any (tg l r) aa ac s sa sc P3 wy (hI.later hy) (hv.2 r hr).2.2.1 (by have := (hv.2 r hr).2.2.2.1; omega) (cell_later hy c0) (cell_later hy c1)
end Go.Proofs.Ytoblmecgnpoogaa

