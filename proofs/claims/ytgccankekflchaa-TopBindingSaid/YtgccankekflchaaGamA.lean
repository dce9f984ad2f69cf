

/- Package game: Valid. -/
import Derived.Test.YtgccankekflchaaJdgA
import Derived.Deep.Cut
namespace Go.Proofs.Ytgccankekflchaa
open Go.RowKit

/-- where the first one stands -/
def fstI (P : Int → Bool) (l : List Int) : Int := match l.findIdx? P with | some i => (i : Int) | none => -1
theorem fstI_at {P : Int → Bool} {l : List Int} {q : Nat} (hq : q < l.length) (h : ∀ r, r < q → P (ig l r) = false) (h' : P (ig l q) = true) : fstI P l = q := by
  have e : l.findIdx? P = some q := by
    rw [List.findIdx?_eq_some_iff_getElem]
    refine ⟨hq, by rw [ig_lt hq] at h'; exact h', fun j hj => ?_⟩
    have := h j hj
    rw [ig_lt (by omega)] at this
    simp [this]
  unfold fstI
  rw [e]
theorem fstI_none {P : Int → Bool} {l : List Int} (h : ∀ r, r < l.length → P (ig l r) = false) : fstI P l = -1 := by
  have e : l.findIdx? P = none := by
    rw [List.findIdx?_eq_none_iff]
    intro x hx
    obtain ⟨i, hi, rfl⟩ := List.getElem_of_mem hx
    have := h i hi
    rw [ig_lt hi] at this
    exact this
  unfold fstI
  rw [e]
theorem fstI_any (P : Int → Bool) (l : List Int) : decide (fstI P l ≥ 0) = l.any P := by
  by_cases h : ∀ r, r < l.length → P (ig l r) = false
  · rw [fstI_none h]
    symm
    rw [List.any_eq_false.2]
    · rfl
    · intro x hx
      obtain ⟨i, hi, rfl⟩ := List.getElem_of_mem hx
      have := h i hi
      rw [ig_lt hi] at this
      simp [this]
  · have : ∃ r, r < l.length ∧ P (ig l r) = true := by
      refine Classical.byContradiction fun hn => h fun r hr => ?_
      cases hb : P (ig l r)
      · rfl
      · exact absurd ⟨r, hr, hb⟩ hn
    obtain ⟨r, hr, hb⟩ := this
    have e2 : l.any P = true := List.any_eq_true.2 ⟨_, ig_mem hr, hb⟩
    rw [e2]
    unfold fstI
    cases e : l.findIdx? P with
    | some i => simp
    | none =>
      rw [List.findIdx?_eq_none_iff] at e
      have := e (ig l r) (ig_mem hr)
      rw [hb] at this
      cases this
set_option maxHeartbeats 1000000 in
theorem index_valid (l : List Int) (P : Int → Bool) (a : Option Addr) (cap : Nat) (w : World) (hL : Ints w a l) (hl : l.length < 9223372036854775807)
    (hP : ∀ r, r < l.length → Calls Try.prog 54 #[.int .i64 (ig l r)] w (RetS (.bool (P (ig l r))) w)) :
    Calls Try.prog 71 #[.slice a l.length cap, .func (.func 54) #[] #[]] w (RetS (.int .i64 (fstI P l)) w) := by
  have HP := Lib.hid hP
  obtain ⟨res, hres⟩ : ∃ res, res = fstI P l := ⟨_, rfl⟩
  have HRES := Lib.hid hres
  rw [← hres]
  clear hP hres
  go_enter Try.func71, Try.ntmps71
  go_wp2
  go_loopg [8] (l.length + 1) (fun k v8 wr => ∃ q : Nat, q ≤ l.length ∧ k + q = l.length + 1 ∧ v8 = .int .i64 q ∧ w = wr ∧ ∀ r, r < q → P (ig l r) = false)
  case atStart => exact ⟨0, by omega, by omega, rfl, rfl, fun r hr => absurd hr (by omega)⟩
  case round =>
    obtain ⟨q, hq, hk, rfl, rfl, hall⟩ := hrel
    have HA := Lib.hid hall
    clear hall
    by_cases hlt : q < l.length
    · obtain ⟨ab, aoff, rfl, fa⟩ := hL.fam (by omega)
      have hcq := fa q hlt
      have hp := HP.out q hlt
      obtain ⟨x, hx⟩ : ∃ x, x = ig l q := ⟨_, rfl⟩
      rw [← hx] at hcq hp
      have HX := Lib.hid hx
      have HPX := Lib.hid hp
      have n1 : (q : Int) < (l.length : Int) := by omega
      have n0 : (0 : Int) ≤ (q : Int) := by omega
      clear fa hx hp
      cases hd : P x
      · have HD := Lib.hid (show P (ig l q) = false from by rw [← HX.out]; exact hd)
        go_wp2_with fail
        refine Calls.mono HPX.out ?_
        rintro e w1 ⟨rfl, rfl⟩
        rw [hd]
        clear hd
        go_wp2
        go_roundg (gk - 1)
        case measure => omega
        case rel => exact ⟨q + 1, by omega, by omega, by go_num, rfl, fun r hr => by
          rcases Nat.lt_succ_iff_lt_or_eq.1 hr with h | h
          · exact HA.out r h
          · subst h; exact HD.out⟩
      · have HE := Lib.hid (show res = (q : Int) from HRES.out.trans (fstI_at hlt HA.out (by rw [← HX.out]; exact hd)))
        go_wp2_with fail
        refine Calls.mono HPX.out ?_
        rintro e w1 ⟨rfl, rfl⟩
        rw [hd]
        clear hd
        go_wp2
        go_ret
        exact retS (vint HE.out.symm)
    · have HE := Lib.hid (show res = -1 from HRES.out.trans (fstI_none fun r hr => HA.out r (by omega)))
      go_wp2
      go_ret
      exact retS (vint HE.out.symm)
set_option maxHeartbeats 1000000 in
theorem contains_valid (l : List Int) (P : Int → Bool) (a : Option Addr) (cap : Nat) (w : World) (hL : Ints w a l) (hl : l.length < 9223372036854775807)
    (hP : ∀ r, r < l.length → Calls Try.prog 54 #[.int .i64 (ig l r)] w (RetS (.bool (P (ig l r))) w)) :
    Calls Try.prog 50 #[.slice a l.length cap, .func (.func 54) #[] #[]] w (RetS (.bool (l.any P)) w) := by
  have HC := Lib.hid (index_valid l P a cap w hL hl hP)
  have HR := Lib.hid (fstI_any P l)
  clear hP
  go_enter Try.func50, Try.ntmps50
  go_wp2_with fail
  refine Calls.mono HC.out ?_
  rintro e w1 ⟨rfl, rfl⟩
  go_wp2
  go_ret
  exact retS (vbool HR.out)
def odd12G (n : Int) : Bool := decide (n < 0) || decide (12 < n)
theorem valid1_anyG (n : Int) (w : World) : Calls Try.prog 54 #[.int .i64 n] w (RetS (.bool (odd12G n)) w) := by
  go_enter Try.func54, Try.ntmps54
  go_wp2
  all_goals (go_ret; refine retS (vbool ?_); unfold odd12G; first | (simp; done) | (simp; omega) | (rw [Bool.eq_iff_iff]; simp; omega))
/-- the one ahead -/
def prvG (l : List Int) (i : Nat) : Int := if i = 0 then -1 else ig l (i - 1)
def badDep (m : Nat) (l : List Int) : Bool := (List.range l.length).any fun i => decide (ig l i ≤ prvG l i) || decide ((m : Int) ≤ ig l i)
theorem badDep_no {m : Nat} {l : List Int} : badDep m l = false ↔ okDep m l := by
  unfold badDep okDep
  rw [List.any_eq_false]
  constructor
  · intro h i hi
    have := h i (by simpa using hi)
    rw [Bool.or_eq_true, decide_eq_true_eq, decide_eq_true_eq, not_or] at this
    unfold prvG at this
    exact ⟨by omega, by omega⟩
  · intro h i hi
    have := h i (by simpa using hi)
    rw [Bool.or_eq_true, decide_eq_true_eq, decide_eq_true_eq, not_or]
    unfold prvG
    exact ⟨by omega, by omega⟩
theorem badDep_yes {m : Nat} {l : List Int} {i : Nat} (hi : i < l.length) (h : ig l i ≤ prvG l i ∨ (m : Int) ≤ ig l i) : badDep m l = true := by
  unfold badDep
  rw [List.any_eq_true]
  exact ⟨i, by simpa using hi, by rw [Bool.or_eq_true, decide_eq_true_eq, decide_eq_true_eq]; exact h⟩
set_option maxRecDepth 100000 in
set_option maxHeartbeats 2000000 in
theorem valid2_any (l : List Int) (a : Option Addr) (cap P m : Nat) (sa : Option Addr) (sc : Nat) (w : World) (hL : Ints w a l) (hl : l.length < 9223372036854775807) (cP : w.cell? ⟨P, 0, none⟩ = some (.slice sa m sc)) :
    Calls Try.prog 56 #[.slice a l.length cap, .pointer (some ⟨P, 0, none⟩)] w (RetS (.bool (badDep m l)) w) := by
  obtain ⟨r, hr⟩ : ∃ r, r = badDep m l := ⟨_, rfl⟩
  have HR := Lib.hid hr
  have HNO := Lib.hid (show (∀ i, i < l.length → ¬ (ig l i ≤ prvG l i ∨ (m : Int) ≤ ig l i)) → r = false from fun h => by
    rw [hr]
    cases e : badDep m l
    · rfl
    · unfold badDep at e
      rw [List.any_eq_true] at e
      obtain ⟨i, hi, h2⟩ := e
      rw [Bool.or_eq_true, decide_eq_true_eq, decide_eq_true_eq] at h2
      exact absurd h2 (h i (by simpa using hi)))
  rw [← hr]
  clear hr
  go_enter Try.func56, Try.ntmps56
  go_wp2_with fail
  go_loopg [4, 9] (l.length + 1) (fun gk v4 v9 wr => ∃ i : Nat, i ≤ l.length ∧ gk + i = l.length + 1 ∧ v9 = .int .i64 i ∧ v4 = .int .i64 (prvG l i) ∧ w = wr ∧ ∀ j, j < i → ¬ (ig l j ≤ prvG l j ∨ (m : Int) ≤ ig l j))
  case atStart => exact ⟨0, by omega, by omega, rfl, rfl, rfl, fun j hj => absurd hj (by omega)⟩
  case round =>
    obtain ⟨i, hi, hgi, rfl, rfl, rfl, hall⟩ := hrel
    have HALL := Lib.hid hall
    clear hall
    by_cases hlt : i < l.length
    · obtain ⟨ab, aoff, rfl, fa⟩ := hL.fam (by omega)
      have ci := fa i hlt
      have hp1 : prvG l (i + 1) = ig l i := by unfold prvG; rw [if_neg (by omega)]; rfl
      obtain ⟨x, hx⟩ : ∃ x, x = ig l i := ⟨_, rfl⟩
      obtain ⟨y, hy⟩ : ∃ y, y = prvG l i := ⟨_, rfl⟩
      rw [← hx] at ci hp1
      rw [← hy]
      have HP1 := Lib.hid hp1
      have HX := Lib.hid hx
      have HY := Lib.hid hy
      have n1 : (i : Int) < (l.length : Int) := by omega
      have n0 : (0 : Int) ≤ (i : Int) := by omega
      clear hp1 hx hy fa
      by_cases h1 : x ≤ y
      · have HE := Lib.hid (show r = true from by rw [HR.out]; exact badDep_yes hlt (by rw [← HX.out, ← HY.out]; exact .inl h1))
        go_wp2_with fail
        go_ret
        exact retS (vbool HE.out.symm)
      by_cases h2 : (m : Int) ≤ x
      · have HE := Lib.hid (show r = true from by rw [HR.out]; exact badDep_yes hlt (by rw [← HX.out]; exact .inr h2))
        go_wp2_with fail
        go_ret
        exact retS (vbool HE.out.symm)
      have HOK := Lib.hid (show ¬ (ig l i ≤ prvG l i ∨ (m : Int) ≤ ig l i) from by rw [← HX.out, ← HY.out]; omega)
      go_wp2_with fail
      go_roundg (gk - 1)
      case measure => omega
      case rel => exact ⟨i + 1, by omega, by omega, by go_num, by rw [HP1.out], rfl, fun j hj => by
        rcases Nat.lt_succ_iff_lt_or_eq.1 hj with h | h
        · exact HALL.out j h
        · subst h; exact HOK.out⟩
    · obtain rfl : i = l.length := by omega
      have HE := Lib.hid (HNO.out HALL.out)
      go_wp2_with fail
      go_ret
      exact retS (vbool HE.out.symm)
/-- where the first row stands -/
def fstR (P : Nat → Bool) (n : Nat) : Int := fstI (fun x => P x.toNat) ((List.range n).map fun k : Nat => (k : Int))
theorem rg_len (n : Nat) : ((List.range n).map fun k : Nat => (k : Int)).length = n := by simp
theorem rg_ig {n r : Nat} (h : r < n) : ig ((List.range n).map fun k : Nat => (k : Int)) r = r := by
  rw [ig_lt (by rw [rg_len]; exact h)]
  simp
theorem fstR_at {P : Nat → Bool} {n q : Nat} (hq : q < n) (h : ∀ r, r < q → P r = false) (h' : P q = true) : fstR P n = q :=
  fstI_at (by rw [rg_len]; exact hq) (fun r hr => by rw [rg_ig (by omega), Int.toNat_natCast]; exact h r hr) (by rw [rg_ig hq, Int.toNat_natCast]; exact h')
theorem fstR_none {P : Nat → Bool} {n : Nat} (h : ∀ r, r < n → P r = false) : fstR P n = -1 :=
  fstI_none fun r hr => by
    rw [rg_len] at hr
    rw [rg_ig hr, Int.toNat_natCast]
    exact h r hr
def anyR (P : Nat → Bool) (n : Nat) : Bool := decide (fstR P n ≥ 0)
theorem anyR_no {P : Nat → Bool} {n : Nat} (h : ∀ r, r < n → P r = false) : anyR P n = false := by
  unfold anyR
  rw [fstR_none h]
  rfl
theorem anyR_yes {P : Nat → Bool} {n q : Nat} (hq : q < n) (h : P q = true) : anyR P n = true := by
  unfold anyR fstR
  rw [fstI_any, List.any_eq_true]
  exact ⟨(q : Int), List.mem_map.2 ⟨q, by simpa using hq, rfl⟩, by rw [Int.toNat_natCast]; exact h⟩
theorem anyR_iff {P : Nat → Bool} {n : Nat} : anyR P n = false ↔ ∀ r, r < n → P r = false := by
  constructor
  · intro h r hr
    cases e : P r
    · rfl
    · rw [anyR_yes hr e] at h; cases h
  · exact anyR_no
set_option maxRecDepth 100000 in
set_option maxHeartbeats 2000000 in
theorem indexR_any (ll : List (List Int)) (P : Nat → Bool) (c1 : Value) (a : Option Addr) (cap : Nat) (w : World) (hL : Rows2 w a ll) (hl : ll.length ≤ 1000)
    (hP : ∀ r, r < ll.length → ∀ ra rc, Ints w ra (ll.getD r []) → Calls Try.prog 56 #[.slice ra (ll.getD r []).length rc, c1] w (RetS (.bool (P r)) w)) :
    Calls Try.prog 72 #[.slice a ll.length cap, .func (.func 56) #[] #[c1]] w (RetS (.int .i64 (fstR P ll.length)) w) := by
  have HP := Lib.hid hP
  have HL := Lib.hid hL
  obtain ⟨res, hres⟩ : ∃ res, res = fstR P ll.length := ⟨_, rfl⟩
  have HRES := Lib.hid hres
  rw [← hres]
  clear hP hres hL
  go_enter Try.func72, Try.ntmps72
  go_wp2
  go_loopg [8] (ll.length + 1) (fun k v8 wr => ∃ q : Nat, q ≤ ll.length ∧ k + q = ll.length + 1 ∧ v8 = .int .i64 q ∧ w = wr ∧ ∀ r, r < q → P r = false)
  case atStart => exact ⟨0, by omega, by omega, rfl, rfl, fun r hr => absurd hr (by omega)⟩
  case round =>
    obtain ⟨q, hq, hk, rfl, rfl, hall⟩ := hrel
    have HA := Lib.hid hall
    clear hall
    by_cases hlt : q < ll.length
    · obtain ⟨b, off, ra, rc, rfl, hc, hI⟩ := HL.out q hlt
      have hp := HP.out q hlt ra rc hI
      obtain ⟨ln, hln⟩ : ∃ x, x = (ll.getD q []).length := ⟨_, rfl⟩
      rw [← hln] at hc hp
      have HPX := Lib.hid hp
      have n1 : (q : Int) < (ll.length : Int) := by omega
      have n0 : (0 : Int) ≤ (q : Int) := by omega
      clear hp hI hln
      cases hd : P q
      · have HD := Lib.hid hd
        go_wp2_with fail
        refine Calls.mono HPX.out ?_
        rintro e w1 ⟨rfl, rfl⟩
        rw [hd]
        clear hd
        go_wp2
        go_roundg (gk - 1)
        case measure => omega
        case rel => exact ⟨q + 1, by omega, by omega, by go_num, rfl, fun r hr => by
          rcases Nat.lt_succ_iff_lt_or_eq.1 hr with h | h
          · exact HA.out r h
          · subst h; exact HD.out⟩
      · have HE := Lib.hid (show res = (q : Int) from HRES.out.trans (fstR_at hlt HA.out hd))
        go_wp2_with fail
        refine Calls.mono HPX.out ?_
        rintro e w1 ⟨rfl, rfl⟩
        rw [hd]
        clear hd
        go_wp2
        go_ret
        exact retS (vint HE.out.symm)
    · have HE := Lib.hid (show res = -1 from HRES.out.trans (fstR_none fun r hr => HA.out r (by omega)))
      go_wp2
      go_ret
      exact retS (vint HE.out.symm)
set_option maxHeartbeats 1000000 in
theorem containsR_any (ll : List (List Int)) (P : Nat → Bool) (c1 : Value) (a : Option Addr) (cap : Nat) (w : World) (hL : Rows2 w a ll) (hl : ll.length ≤ 1000)
    (hP : ∀ r, r < ll.length → ∀ ra rc, Ints w ra (ll.getD r []) → Calls Try.prog 56 #[.slice ra (ll.getD r []).length rc, c1] w (RetS (.bool (P r)) w)) :
    Calls Try.prog 55 #[.slice a ll.length cap, .func (.func 56) #[] #[c1]] w (RetS (.bool (anyR P ll.length)) w) := by
  have HC := Lib.hid (indexR_any ll P c1 a cap w hL hl hP)
  have HR := Lib.hid (show decide (fstR P ll.length ≥ 0) = anyR P ll.length from rfl)
  clear hP
  go_enter Try.func55, Try.ntmps55
  go_wp2_with fail
  refine Calls.mono HC.out ?_
  rintro e w1 ⟨rfl, rfl⟩
  go_wp2
  go_ret
  exact retS (vbool HR.out)
theorem odd12G_any {l : List Int} : l.any odd12G = false ↔ ∀ i, i < l.length → 0 ≤ ig l i ∧ ig l i ≤ 12 := by
  rw [List.any_eq_false]
  constructor
  · intro h i hi
    have := h _ (ig_mem hi)
    unfold odd12G at this
    rw [Bool.or_eq_true, decide_eq_true_eq, decide_eq_true_eq, not_or] at this
    omega
  · intro h x hx
    obtain ⟨i, hi, rfl⟩ := List.getElem_of_mem hx
    have := h i hi
    rw [ig_lt hi] at this
    unfold odd12G
    rw [Bool.or_eq_true, decide_eq_true_eq, decide_eq_true_eq, not_or]
    omega
set_option maxRecDepth 100000 in
set_option maxHeartbeats 4000000 in
theorem valid_anyG (g : Gm) (sa da : Option Addr) (sc dc : Nat) (w : World) (hG : GmAt w g sa da) (hF : GmFew g) : Calls Try.prog 37 #[gmV g sa sc da dc] w (RetB (.bool (vgB g)) w) := by
  obtain ⟨m, hm⟩ : ∃ m, m = g.starts.length := ⟨_, rfl⟩
  obtain ⟨n, hn⟩ : ∃ n, n = g.deps.length := ⟨_, rfl⟩
  obtain ⟨bu, hbu⟩ : ∃ n, n = g.budget := ⟨_, rfl⟩
  obtain ⟨r, hr⟩ : ∃ r, r = vgB g := ⟨_, rfl⟩
  have hf1 := hF.s
  have hf2 := hF.d
  have HF := Lib.hid hF
  have HG := Lib.hid hG
  have HM := Lib.hid hm
  have HN := Lib.hid hn
  have HBU := Lib.hid hbu
  have HNO := Lib.hid (show ¬ VG g → r = false from fun h => by rw [hr]; exact vgB_false h)
  have HYES := Lib.hid (show VG g → r = true from fun h => by rw [hr]; exact vgB_true h)
  rw [← hm] at hf1
  rw [← hn] at hf2
  unfold gmV
  rw [← hm, ← hn, ← hbu, ← hr]
  clear hG hF hm hn hbu hr
  have hmf : ∀ (fn : Fn) (first cap : Array Value) (w : World), (Instr.makeFunc fn first cap).run Try.prog w = .ok (.func fn first cap) w := fun _ _ _ _ => rfl
  go_enter Try.func37, Try.ntmps37
  go_upto_region 1 with fail
  obtain ⟨wX, P, hP, hbX, hBX, hwX⟩ : ∃ wX P, P = w.heap.size ∧ Below w.heap.size w wX ∧ BoxAt wX P [.slice sa m sc, .slice da n dc, .int .i64 bu] ∧ wX = w.alloc (.cells #[.slice sa m sc, .slice da n dc, .int .i64 bu] 25) := ⟨_, _, rfl, (Below.refl _ _).alloc (Nat.le_refl _) _, BoxAt.new w _ _, rfl⟩
  rw [← hwX, ← hP]
  have HBX := Lib.hid hbX
  have c0 := (hBX 0 _ rfl).1
  have c1 := (hBX 1 _ rfl).1
  have c2 := (hBX 2 _ rfl).1
  clear hP hbX hBX hwX
  by_cases h1 : (6 : Int) < (m : Int)
  · have HE := Lib.hid (HNO.out fun h => by have := h.1; have := HM.out; omega)
    go_wp2_with fail
    go_ret
    exact retB (vbool HE.out.symm) HBX.out
  by_cases h2 : (12 : Int) < (n : Int)
  · have HE := Lib.hid (HNO.out fun h => by have := h.2.1; have := HN.out; omega)
    go_wp2_with fail
    go_ret
    exact retB (vbool HE.out.symm) HBX.out
  by_cases h3 : bu < 0
  · have HE := Lib.hid (HNO.out fun h => by have := h.2.2.1; have := HBU.out; omega)
    go_wp2_with fail
    go_ret
    exact retB (vbool HE.out.symm) HBX.out
  by_cases h4 : 3 < bu
  · have HE := Lib.hid (HNO.out fun h => by have := h.2.2.2.1; have := HBU.out; omega)
    go_wp2_with fail
    go_ret
    exact retB (vbool HE.out.symm) HBX.out
  have HB4 := Lib.hid (And.intro h1 (And.intro h2 (And.intro h3 h4)))
  obtain ⟨od, hod⟩ : ∃ x, x = g.starts.any odd12G := ⟨_, rfl⟩
  have HOD := Lib.hid hod
  have HC1 := Lib.hid (show Calls Try.prog 50 #[.slice sa m sc, .func (.func 54) #[] #[]] wX (RetS (.bool od) wX) from by
    rw [hod, HM.out]
    exact contains_valid g.starts odd12G sa sc wX (HG.out.s.later HBX.out) (by rw [← HM.out]; omega) fun r _ => valid1_anyG _ _)
  obtain ⟨bd, hbd⟩ : ∃ x, x = anyR (fun r => badDep m (dg g r)) n := ⟨_, rfl⟩
  have HBD := Lib.hid hbd
  have HC2 := Lib.hid (show Calls Try.prog 55 #[.slice da n dc, .func (.func 56) #[] #[.pointer (some ⟨P, 0, none⟩)]] wX (RetS (.bool bd) wX) from by
    rw [hbd, HN.out]
    exact containsR_any g.deps (fun r => badDep m (dg g r)) _ da dc wX (HG.out.d.later HBX.out) (by rw [← HN.out]; omega) fun r hr ra rc hI => valid2_any _ ra rc P m sa sc wX hI (by have := HF.out.r r hr; show (g.deps.getD r []).length < _; have e : dg g r = g.deps.getD r [] := rfl; rw [← e]; omega) c0)
  clear hod hbd
  go_wp2_with fail
  refine Calls.mono HC1.out ?_
  rintro e w1 ⟨rfl, rfl⟩
  cases od
  case true =>
    have HE := Lib.hid (HNO.out fun h => by
      have h5 := odd12G_any.2 h.2.2.2.2.1
      rw [← HOD.out] at h5
      cases h5)
    go_wp2_with fail
    go_ret
    exact retB (vbool HE.out.symm) HBX.out
  go_wp2_with fail
  refine Calls.mono HC2.out ?_
  rintro e w1 ⟨rfl, rfl⟩
  cases bd
  · have HE := Lib.hid (HYES.out (by
      obtain ⟨a1, a2, a3, a4⟩ := HB4.out
      refine ⟨by rw [← HM.out]; omega, by rw [← HN.out]; omega, by rw [← HBU.out]; omega, by rw [← HBU.out]; omega, odd12G_any.1 HOD.out.symm, fun i hi => ?_⟩
      rw [← HM.out]
      exact badDep_no.1 (anyR_iff.1 HBD.out.symm i (by rw [HN.out]; exact hi))))
    go_wp2_with fail
    go_ret
    exact retB (vbool HE.out.symm) HBX.out
  · have HE := Lib.hid (HNO.out fun h => by
      have h5 : anyR (fun r => badDep m (dg g r)) n = false := anyR_no fun r hr => by
        rw [badDep_no, HM.out]
        exact h.2.2.2.2.2 r (by rw [← HN.out]; exact hr)
      rw [← HBD.out] at h5
      cases h5)
    go_wp2_with fail
    go_ret
    exact retB (vbool HE.out.symm) HBX.out
end Go.Proofs.Ytgccankekflchaa

