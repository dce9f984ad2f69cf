


/- hold.On: the holds on a vehicle that are out. -/
import Derived.Test.YtgoomcnaemfjcaaHldE
import Derived.Lib.SliceRun
namespace Go.Proofs.Ytgoomcnaemfjcaa
open Go.RowKit

set_option maxRecDepth 100000 in
theorem onc_any (x : HA) (veh : ByteArray) (B : Nat) (w : World) (hH : HdAt w x.1 x.2.1 x.2.2.2.1) (hB : w.cell? ⟨B, 0, none⟩ = some (.string veh)) :
    Calls Try.prog 30 #[haV x, .pointer (some ⟨B, 0, none⟩)] w (RetB (.bool (!onB veh x.1)) w) := by
  have HH := Lib.hid hH
  have HO := Lib.hid (show ∀ wy, HdAt wy x.1 x.2.1 x.2.2.2.1 → Calls Try.prog 13 #[hdV x.1 x.2.1 x.2.2.1 x.2.2.2.1 x.2.2.2.2] wy (RetB (.bool (outB x.1)) wy) from fun wy h => out_any x.1 _ _ _ _ wy h)
  have hBl := World.block_lt_of_cell? _ _ hB
  unfold hdV at HO
  unfold haV hdV
  clear hH
  cases e1 : (x.1.veh.toList == veh.toList)
  · have h1 : ¬ x.1.veh = veh := of_decide_eq_false (str_eq.symm.trans e1)
    have HN := Lib.hid (show onB veh x.1 = false from onB_no fun h => h1 h.1)
    clear h1
    go_enter Try.func30, Try.ntmps30
    go_wp2_with fail
    go_ret
    exact retB (vbool (by rw [HN.out]; rfl)) (by repeat (first | exact Below.refl _ _ | assumption | refine Below.drew ?_ | refine below_drewN ?_ _ | refine Below.alloc ?_ (by first | omega | (simp; done) | (simp; omega)) _ | refine Below.setCell ?_ (by first | omega | (simp; done) | (simp; omega)) _ | refine Below.trans ?_ (Below.mono (by assumption) (by first | omega | (simp; done) | (simp; omega)))))
  · have h1 : x.1.veh = veh := of_decide_eq_true (str_eq.symm.trans e1)
    have HN := Lib.hid (show onB veh x.1 = outB x.1 from by
      by_cases k : outH x.1
      · rw [outB_yes k, onB_yes ⟨h1, k⟩]
      · rw [outB_no k, onB_no fun h => k h.2])
    clear h1
    go_enter Try.func30, Try.ntmps30
    go_wp2_with fail
    obtain ⟨wx, hwx⟩ : ∃ wx, wx = w.alloc (Obj.cells #[.string x.1.id, .string x.1.veh, .slice x.2.1 x.1.mem.length x.2.2.1, .slice x.2.2.2.1 x.1.back.length x.2.2.2.2] 31) := ⟨_, rfl⟩
    rw [← hwx]
    have hbx : Below w.heap.size w wx := by rw [hwx]; exact (by repeat (first | exact Below.refl _ _ | assumption | refine Below.drew ?_ | refine below_drewN ?_ _ | refine Below.alloc ?_ (by first | omega | (simp; done) | (simp; omega)) _ | refine Below.setCell ?_ (by first | omega | (simp; done) | (simp; omega)) _ | refine Below.trans ?_ (Below.mono (by assumption) (by first | omega | (simp; done) | (simp; omega)))))
    have HBX := Lib.hid hbx
    have HHX := Lib.hid (HH.out.later hbx)
    refine Calls.mono (HO.out _ HHX.out) ?_
    rintro e w1 ⟨rfl, hb1⟩
    have HBW := Lib.hid (HBX.out.trans (hb1.mono HBX.out.size))
    clear hwx hbx hb1
    go_wp2_with fail
    go_ret
    exact retB (vbool (by rw [HN.out])) HBW.out
/-- the first hold that is not on the vehicle, or is not out; or -1 -/
noncomputable def idxH (L : List HA) (veh : ByteArray) : Int := match L.findIdx? (fun x => !onB veh x.1) with | some i => (i : Int) | none => -1
theorem idxH_at {L : List HA} {veh : ByteArray} {i : Nat} (hi : i < L.length) (h : onB veh L[i].1 = false) (hb : ∀ r (hr : r < L.length), r < i → onB veh L[r].1 = true) : idxH L veh = i := by
  have : L.findIdx? (fun x => !onB veh x.1) = some i := by
    rw [List.findIdx?_eq_some_iff_getElem]
    exact ⟨hi, by rw [h]; rfl, fun j hj => by rw [hb j (by omega) hj]; decide⟩
  unfold idxH
  rw [this]
theorem idxH_no {L : List HA} {veh : ByteArray} (hb : ∀ r (hr : r < L.length), onB veh L[r].1 = true) : idxH L veh = -1 := by
  have : L.findIdx? (fun x => !onB veh x.1) = none := by
    rw [List.findIdx?_eq_none_iff]
    intro y hy
    obtain ⟨j, hj, rfl⟩ := List.getElem_of_mem hy
    rw [hb j hj]
    rfl
  unfold idxH
  rw [this]
set_option maxRecDepth 100000 in
set_option maxHeartbeats 1000000 in
theorem indexh_any (L : List HA) (veh : ByteArray) (B : Nat) (a : Option Addr) (c : Nat) (w : World) (hA : EH.At w a L) (hL : HAll w L) (hl : L.length < 9223372036854775808) (hB : w.cell? ⟨B, 0, none⟩ = some (.string veh)) :
    Calls Try.prog 33 #[.slice a L.length c, .func (.func 30) #[] #[.pointer (some ⟨B, 0, none⟩)]] w (RetB (.int .i64 (idxH L veh)) w) := by
  have HA := Lib.hid hA
  have HL := Lib.hid hL
  have HB := Lib.hid hB
  obtain ⟨n, hn⟩ : ∃ n, n = L.length := ⟨_, rfl⟩
  have HN := Lib.hid hn
  rw [← hn] at hl ⊢
  clear hn hA hL hB
  go_enter Try.func33, Try.ntmps33
  go_wp2_with fail
  go_loopg [8] (n + 1) (fun k v wr => ∃ i : Nat, i ≤ n ∧ k + i = n + 1 ∧ v = .int .i64 i ∧ Below w.heap.size w wr ∧ ∀ r (hr : r < L.length), r < i → onB veh L[r].1 = true)
  case atStart => exact ⟨0, by omega, by omega, rfl, Below.refl _ _, fun r _ hr => absurd hr (by omega)⟩
  case round =>
    obtain ⟨i, hi, hki, rfl, hbr, hall⟩ := hrel
    have HAL := Lib.hid hall
    have HBR := Lib.hid hbr
    clear hall
    by_cases hlt : i < n
    · have hiL : i < L.length := by have := HN.out; omega
      have hat := HA.out.later hbr
      obtain ⟨b, off, rfl, _⟩ := hat.head (by omega)
      obtain ⟨q0, q1, q2, q3⟩ := hd_cells hat hiL
      have hx := (HL.out _ (List.getElem_mem hiL)).later hbr
      obtain ⟨x, hxe⟩ : ∃ x, x = L[i] := ⟨_, rfl⟩
      rw [← hxe] at q0 q1 q2 q3 hx
      have HX := Lib.hid hxe
      have HC := Lib.hid (onc_any x veh B wr hx (cell_later hbr HB.out))
      have n1 : (i : Int) < (n : Int) := by omega
      have n0 : (0 : Int) ≤ (i : Int) := by omega
      clear hxe hat hx hbr
      cases hd : onB veh x.1
      · have HD := Lib.hid (idxH_at (L := L) (veh := veh) hiL (by rw [← HX.out]; exact hd) HAL.out)
        have HC1 := HC.out
        rw [hd] at HC1
        have HC2 := Lib.hid HC1
        clear hd HC1
        go_wp2_with fail
        refine Calls.mono HC2.out ?_
        rintro e w1 ⟨rfl, hb1⟩
        have HBW := Lib.hid (HBR.out.trans (hb1.mono HBR.out.size))
        clear hb1
        go_wp2_with fail
        go_ret
        exact retB (vint HD.out.symm) HBW.out
      · have HD := Lib.hid hd
        have HC1 := HC.out
        rw [hd] at HC1
        have HC2 := Lib.hid HC1
        clear hd HC1
        go_wp2_with fail
        refine Calls.mono HC2.out ?_
        rintro e w1 ⟨rfl, hb1⟩
        have HBW := Lib.hid (HBR.out.trans (hb1.mono HBR.out.size))
        clear hb1
        go_wp2_with fail
        go_roundg (n - i)
        case measure => omega
        case rel => exact ⟨i + 1, by omega, by omega, by go_num, HBW.out, fun r h1 hr => by
          rcases Nat.lt_succ_iff_lt_or_eq.1 hr with h | h
          · exact HAL.out r h1 h
          · subst h; rw [← HX.out]; exact HD.out⟩
    · obtain rfl : i = n := by omega
      have HD := Lib.hid (idxH_no (L := L) (veh := veh) fun r hr => HAL.out r hr (by have := HN.out; omega))
      clear hbr
      go_wp2_with fail
      go_ret
      exact retB (vint HD.out.symm) HBR.out
set_option maxRecDepth 100000 in
theorem clone_any (L : List HA) (a : Option Addr) (c : Nat) (w : World) (hA : EH.At w a L) (hl : L.length ≤ 100000) :
    Calls Try.prog 29 #[.slice a L.length c] w (fun e w' => ∃ v', e = .returned v' ∧ EH.Own w' w.heap.size v' L ∧ Below w.heap.size w w') := by
  have heq := fun (w : World) (a : Option Addr) (n c : Nat) => Go.Lib.run_eql_slice_nil (P := Try.prog) w 26 31 a n c 0 0 Try.underlying26
  cases a with
  | none =>
    obtain rfl := hA.isNil
    go_enter Try.func29, Try.ntmps29
    go_wp2_with fail
    go_ret
    exact ⟨_, rfl, El.Own.nil _ _ _, Below.refl _ _⟩
  | some a =>
    have hnil := El.Own.lit (E := EH) w w.heap.size (Nat.le_refl _) [] (by simp) #[] rfl
    have hEm : Below w.heap.size w (w.alloc (.cells #[] 31)) := (by repeat (first | exact Below.refl _ _ | assumption | refine Below.drew ?_ | refine below_drewN ?_ _ | refine Below.alloc ?_ (by first | omega | (simp; done) | (simp; omega)) _ | refine Below.setCell ?_ (by first | omega | (simp; done) | (simp; omega)) _ | refine Below.trans ?_ (Below.mono (by assumption) (by first | omega | (simp; done) | (simp; omega)))))
    obtain ⟨v', w2, hr, ho, hg, hn⟩ := El.app (E := EH) _ w.heap.size _ [] L hnil (some a) c (hA.later hEm) (by simp; omega) (by simp) 26
    have HR := Lib.hid hr
    have HO := Lib.hid ho
    have HB := Lib.hid (show Below w.heap.size w w2 from hEm.grown hg hEm.size (fun b hb => (hnil.lt b hb).1))
    clear hr ho hg hn hnil hEm hA
    go_enter Try.func29, Try.ntmps29
    go_wp2_with (at_builtin; go_loud (refine wpList_app_eq rfl _ _ _ rfl _ _ rfl rfl HR.out ?_))
    go_ret
    exact ⟨_, rfl, by simpa using HO.out, HB.out⟩
/-- clear of some elements -/
theorem run_clear_el {α : Type} {n : Nat} (E : El α) (hz0 : ∀ w, (zeroValue E.T).run Try.prog w = .ok E.z w) (hz1 : ∀ v ∈ (Builtin.zeroCells E.z.cells n).toList, v.oneCell' = true) (hzl : (Builtin.zeroCells E.z.cells n).toList.length = n * E.S) (w : World) (ty : TypeId) (b o c : Nat) (hn : 0 < n)
    (hc : w.there b o (n * E.S)) : (Builtin.clear_ #[E.TS] ty #[.slice (some ⟨b, o, none⟩) n c]).run Try.prog w = .ok (.tuple #[]) (w.setCells b o (Builtin.zeroCells E.z.cells n).toList) := by
  have hst := run_storeCells_cells (P := Try.prog) b o (Builtin.zeroCells E.z.cells n).toList 0 w (by rw [hzl]; intro j hj; exact (hc j hj).1) (by rw [hzl]; intro j hj; exact (hc j hj).2) hz1
  simp only [Nat.add_zero] at hst
  obtain ⟨m, rfl⟩ : ∃ m, n = m + 1 := ⟨n - 1, by omega⟩
  simp [Builtin.clear_, run_underlying E.hT, hz0, hst]
/-- some cells of a row of one's own are stored -/
theorem own_setCells {B : Nat} {e : TypeId} {size g n cap : Nat} : ∀ (vs : List Value) (o : Nat) (w : World) (xs : List Value), w.ownsRow B e size (.slice (some ⟨g, 0, none⟩) n cap) n xs → (w.setCells g o vs).ownsRow B e size (.slice (some ⟨g, 0, none⟩) n cap) n (xs.mapIdx fun j u => if o ≤ j ∧ j < o + vs.length then vs.getD (j - o) u else u)
  | [], o, w, xs, h => by
    have : (xs.mapIdx fun j u => if o ≤ j ∧ j < o + ([] : List Value).length then ([] : List Value).getD (j - o) u else u) = xs := by
      refine List.ext_getElem (by simp) fun j h1 h2 => ?_
      simp
    rw [this]
    exact h
  | v :: vs, o, w, xs, h => by
    have h1 := own_setCells vs (o + 1) (w.setCell ⟨g, o, none⟩ v) _ (h.stored o v).1
    rw [World.setCells]
    have : ((xs.set o v).mapIdx fun j u => if o + 1 ≤ j ∧ j < o + 1 + vs.length then vs.getD (j - (o + 1)) u else u) = xs.mapIdx fun j u => if o ≤ j ∧ j < o + (v :: vs).length then (v :: vs).getD (j - o) u else u := by
      refine List.ext_getElem (by simp) fun j h1 h2 => ?_
      simp only [List.getElem_mapIdx, List.getElem_set, List.length_cons]
      by_cases hj : o = j
      · subst hj
        rw [if_neg (by omega), if_pos rfl, if_pos ⟨by omega, by omega⟩]
        simp
      · rw [if_neg hj]
        by_cases h3 : o + 1 ≤ j ∧ j < o + 1 + vs.length
        · rw [if_pos h3, if_pos ⟨by omega, by omega⟩, show j - o = (j - (o + 1)) + 1 by omega]
          simp
        · rw [if_neg h3, if_neg (by omega)]
    rw [this] at h1
    exact h1
/-- an element of a row of one's own is stored -/
theorem El.Own.setAt {α : Type} {E : El α} {w : World} {B g cap k : Nat} {l : List α} {x : α} (h : E.Own w B (.slice (some ⟨g, 0, none⟩) l.length cap) l) (hk : k < l.length) : E.Own (w.setCells g (k * E.S) (E.cf x)) B (.slice (some ⟨g, 0, none⟩) l.length cap) (l.set k x) := by
  have h1 := own_setCells (E.cf x) (k * E.S) w _ h
  have e : ((l.flatMap E.cf).mapIdx fun j u => if k * E.S ≤ j ∧ j < k * E.S + (E.cf x).length then (E.cf x).getD (j - k * E.S) u else u) = (l.set k x).flatMap E.cf := by
    have hS := E.pos
    refine List.ext_getElem? fun j => ?_
    by_cases hj : j < l.length * E.S
    · have hq : j / E.S < l.length := (Nat.div_lt_iff_lt_mul hS).2 hj
      have hm : j % E.S < E.S := Nat.mod_lt _ hS
      have hdm : j / E.S * E.S + j % E.S = j := by rw [Nat.mul_comm]; exact Nat.div_add_mod j E.S
      have e1 := E.fat l (j / E.S) hq (j % E.S) hm
      have e2 := E.fat (l.set k x) (j / E.S) (by simpa using hq) (j % E.S) hm
      rw [hdm] at e1 e2
      rw [List.getElem?_mapIdx, e1, e2, E.len]
      by_cases hkq : k = j / E.S
      · subst hkq
        rw [List.getElem_set_self]
        have h3 : j / E.S * E.S ≤ j ∧ j < j / E.S * E.S + E.S := by
          generalize j / E.S * E.S = p at *
          generalize j % E.S = r at *
          omega
        have h4 : j - j / E.S * E.S = j % E.S := by
          generalize j / E.S * E.S = p at *
          generalize j % E.S = r at *
          omega
        rw [h4]
        have hl1 : j % E.S < (E.cf l[j / E.S]).length := by rw [E.len]; exact hm
        have hl2 : j % E.S < (E.cf x).length := by rw [E.len]; exact hm
        rw [List.getElem?_eq_getElem hl1, List.getElem?_eq_getElem hl2]
        simp [h3, hl2]
      · rw [List.getElem_set_ne hkq]
        have h3 : ¬ (k * E.S ≤ j ∧ j < k * E.S + E.S) := by
          rintro ⟨h4, h5⟩
          apply hkq
          have h6 : k ≤ j / E.S := (Nat.le_div_iff_mul_le hS).2 h4
          have h7 : j / E.S < k + 1 := (Nat.div_lt_iff_lt_mul hS).2 (by rw [Nat.succ_mul]; exact h5)
          generalize j / E.S = q at *
          omega
        have hl1 : j % E.S < (E.cf l[j / E.S]).length := by rw [E.len]; exact hm
        rw [List.getElem?_eq_getElem hl1]
        simp [h3]
    · rw [List.getElem?_eq_none (by rw [List.length_mapIdx, E.flen]; omega), List.getElem?_eq_none (by rw [E.flen, List.length_set]; omega)]
  unfold El.Own
  rw [List.length_set, ← e]
  exact h1
theorem zero_EH (w : World) : (zeroValue EH.T).run Try.prog w = .ok EH.z w := by
  obtain ⟨i0, hi, hz0, _⟩ := infoParts EH.info
  simp [zeroValue, typeInfo, hi, hz0]
theorem zl_EH (n : Nat) : (Builtin.zeroCells EH.z.cells n).toList.length = n * EH.S := by
  simp [Builtin.zeroCells]
  rfl
theorem zo_EH (n : Nat) : ∀ v ∈ (Builtin.zeroCells EH.z.cells n).toList, v.oneCell' = true := fun v hv => by
  simp only [Builtin.zeroCells, Array.toList_map, List.mem_map] at hv
  obtain ⟨a, _, rfl⟩ := hv
  have h4 : EH.z.cells = #[.string ⟨#[]⟩, .string ⟨#[]⟩, .slice none 0 0, .slice none 0 0] := rfl
  rw [h4]
  have : a % 4 = 0 ∨ a % 4 = 1 ∨ a % 4 = 2 ∨ a % 4 = 3 := by omega
  show ((#[.string ⟨#[]⟩, .string ⟨#[]⟩, .slice none 0 0, .slice none 0 0] : Array Value)[a % 4]!).oneCell' = true
  rcases this with e | e | e | e <;> rw [e] <;> rfl
/-- the holds on a vehicle that are out -/
noncomputable def onL (veh : ByteArray) (L : List HA) : List HA := L.filter (fun x => onB veh x.1)
def RetL (w : World) (K : List HA) (e : Ending) (w' : World) : Prop := ∃ a c, e = .returned (.slice a K.length c) ∧ EH.At w' a K ∧ Below w.heap.size w w'
theorem own_block {α : Type} {E : El α} {w : World} {B : Nat} {v : Value} {l : List α} (h : E.Own w B v l) (hl : 0 < l.length) : ∃ g c, v = .slice (some ⟨g, 0, none⟩) l.length c ∧ B ≤ g ∧ g < w.heap.size ∧ l.length ≤ c ∧ c ≤ maxLen := by
  obtain ⟨a, c, e, h1, h2, _, ⟨_, _, e3⟩ | ⟨g, e1, e2, e3⟩⟩ := h.at
  · rw [e3] at hl; simp at hl
  · subst e1
    exact ⟨g, c, e, e2, e3, h1, h2⟩
set_option maxRecDepth 100000 in
set_option maxHeartbeats 4000000 in
theorem delete_any (L : List HA) (veh : ByteArray) (VB : Nat) (v : Value) (w0 w : World) (hlow : Below w0.heap.size w0 w) (hL : HAll w0 L) (hVB : w0.cell? ⟨VB, 0, none⟩ = some (.string veh)) (hv : EH.Own w w0.heap.size v L) (hl : L.length ≤ 100000) :
    Calls Try.prog 28 #[v, .func (.func 30) #[] #[.pointer (some ⟨VB, 0, none⟩)]] w (fun e w' => ∃ a c, e = .returned (.slice a (onL veh L).length c) ∧ EH.At w' a (onL veh L) ∧ Below w0.heap.size w0 w') := by
  obtain ⟨ga, gc, rfl, hgc1, hgc2, hat, hwh⟩ := hv.at
  have HIX := Lib.hid (indexh_any L veh VB ga gc w hat (hL.later hlow) (by omega) (cell_later hlow hVB))
  by_cases hall : ∀ r (hr : r < L.length), onB veh L[r].1 = true
  · have e : idxH L veh = -1 := idxH_no hall
    rw [e] at HIX
    have ek : onL veh L = L := List.filter_eq_self.2 fun x hx => by
      obtain ⟨r, hr, rfl⟩ := List.getElem_of_mem hx
      exact hall r hr
    have EK := Lib.hid ek
    have HAT := Lib.hid hat
    have HLOW := Lib.hid hlow
    clear e ek hall hat hwh hv hVB hL hlow
    go_enter Try.func28, Try.ntmps28
    go_wp2_with fail
    refine Calls.mono HIX.out ?_
    rintro e w1 ⟨rfl, hb1⟩
    have HB1 := Lib.hid hb1
    clear hb1
    go_wp2_with fail
    go_ret
    rw [EK.out]
    exact ⟨_, _, rfl, HAT.out.later HB1.out, HLOW.out.trans (HB1.out.mono HLOW.out.size)⟩
  · obtain ⟨i0, hi0, hno, hbef⟩ : ∃ i0, ∃ hi : i0 < L.length, onB veh L[i0].1 = false ∧ ∀ r (hr : r < L.length), r < i0 → onB veh L[r].1 = true := by
      cases h : L.findIdx? (fun x => !onB veh x.1) with
      | none =>
        exact absurd (fun r hr => by
          have := (List.findIdx?_eq_none_iff.1 h) _ (List.getElem_mem hr)
          simpa using this) hall
      | some i =>
        obtain ⟨h1, h2, h3⟩ := List.findIdx?_eq_some_iff_getElem.1 h
        exact ⟨i, h1, by simpa using h2, fun r hr hri => by simpa using h3 r hri⟩
    rw [idxH_at hi0 hno hbef] at HIX
    obtain ⟨g, gc', e, hg1, hg2, _, _⟩ := own_block hv (by omega)
    simp only [Value.slice.injEq, true_and] at e
    obtain ⟨rfl, rfl⟩ := e
    obtain ⟨n, hn⟩ : ∃ n, n = L.length := ⟨_, rfl⟩
    have HN := Lib.hid hn
    have HV := Lib.hid (show EH.Own w w0.heap.size (.slice (some ⟨g, 0, none⟩) n gc) L by rw [hn]; exact hv)
    have HLOW := Lib.hid hlow
    have HL := Lib.hid hL
    have HVB := Lib.hid hVB
    have hi0n : i0 < n := by omega
    have HBEF := Lib.hid (show L.take i0 = (L.take (i0 + 1)).filter (fun x => onB veh x.1) from by
      rw [List.take_succ_eq_append_getElem hi0, List.filter_append]
      have h1 : (L.take i0).filter (fun x => onB veh x.1) = L.take i0 := List.filter_eq_self.2 fun x hx => by
        obtain ⟨r, hr, rfl⟩ := List.getElem_of_mem hx
        rw [List.length_take] at hr
        rw [List.getElem_take]
        exact hbef r (by omega) (by omega)
      rw [h1]
      simp [hno])
    have hVl := World.block_lt_of_cell? _ _ hVB
    have e9 : (((i0 : Nat) : Int) == (-1 : Int)) = false := by simp
    rw [← hn] at hl hgc1 HIX ⊢
    clear hall hno hbef hn hv hlow hL hVB hat hwh
    go_enter Try.func28, Try.ntmps28
    go_wp2_with fail
    refine Calls.mono HIX.out ?_
    rintro e w1 ⟨rfl, hb1⟩
    have HV1 := Lib.hid (HV.out.later hb1)
    have HLOW1 := Lib.hid (HLOW.out.trans (hb1.mono HLOW.out.size))
    have hs1 := hb1.size
    clear hb1
    go_wp2_with fail
    go_loopg [5, 6] (n - i0) (fun k v5 v6 wr => ∃ (i j : Nat) (K : List HA), i < j ∧ j ≤ n ∧ k + j = n + 1 ∧ v5 = .int .i64 i ∧ v6 = .int .i64 j ∧ K.length = n ∧ EH.Own wr w0.heap.size (.slice (some ⟨g, 0, none⟩) n gc) K ∧ K.take i = (L.take j).filter (fun x => onB veh x.1) ∧ K.drop j = L.drop j ∧ Below w0.heap.size w0 wr)
    case atStart => exact ⟨i0, i0 + 1, L, by omega, by omega, by omega, rfl, by go_num, HN.out.symm, HV1.out, HBEF.out, rfl, HLOW1.out⟩
    case round =>
      obtain ⟨i, j, K, hij, hj, hk, rfl, rfl, hKl, hown, htk, hdr, hlr⟩ := hrel
      have HOWN := Lib.hid hown
      have HTK := Lib.hid htk
      have HDR := Lib.hid hdr
      have HLR := Lib.hid hlr
      have HKL := Lib.hid hKl
      by_cases hlt : j < n
      · have hjK : j < K.length := by omega
        have hjL : j < L.length := by have := HN.out; omega
        have hKj : K[j] = L[j] := by
          have h1 : (K.drop j)[0]? = (L.drop j)[0]? := by rw [hdr]
          rw [List.getElem?_drop, List.getElem?_drop, Nat.add_zero, List.getElem?_eq_getElem hjK, List.getElem?_eq_getElem hjL] at h1
          exact Option.some.inj h1
        have hat : EH.At wr (some ⟨g, 0, none⟩) K := by
          obtain ⟨a, c, e, _, _, hat, _⟩ := hown.at
          simp only [Value.slice.injEq] at e
          obtain ⟨rfl, _, _⟩ := e
          exact hat
        obtain ⟨q0, q1, q2, q3⟩ := hd_cells hat hjK
        rw [hKj] at q0 q1 q2 q3
        have hx := (HL.out _ (List.getElem_mem hjL)).later hlr
        obtain ⟨x, hxe⟩ : ∃ x, x = L[j] := ⟨_, rfl⟩
        rw [← hxe] at q0 q1 q2 q3 hx
        have HXE := Lib.hid hxe
        have HX := Lib.hid hx
        have hvb := cell_later hlr HVB.out
        have HVBR := Lib.hid hvb
        have n1 : (j : Int) < (n : Int) := by omega
        have n0 : (0 : Int) ≤ (j : Int) := by omega
        have hgr : g < wr.heap.size := by have := (hown.lt g rfl).2; omega
        have hfz : ∀ o, wr.frozen? ⟨g, o, none⟩ = false := fun o => World.ownsRow.frozenAt (by have := hown; unfold El.Own at this; rw [hKl] at this; exact this) o
        have HFZ := Lib.hid hfz
        simp only [Nat.zero_add] at q0 q1 q2 q3
        clear hown htk hdr hat hxe hx hKj hvb hfz
        go_upto_region 8 with fail
        obtain ⟨wz, hwz⟩ : ∃ wz, wz = wr.alloc (Obj.cells #[.string x.1.id, .string x.1.veh, .slice x.2.1 x.1.mem.length x.2.2.1, .slice x.2.2.2.1 x.1.back.length x.2.2.2.2] 31) := ⟨_, rfl⟩
        rw [← hwz]
        have hbz : Below wr.heap.size wr wz := by rw [hwz]; exact (by repeat (first | exact Below.refl _ _ | assumption | refine Below.drew ?_ | refine below_drewN ?_ _ | refine Below.alloc ?_ (by first | omega | (simp; done) | (simp; omega)) _ | refine Below.setCell ?_ (by first | omega | (simp; done) | (simp; omega)) _ | refine Below.trans ?_ (Below.mono (by assumption) (by first | omega | (simp; done) | (simp; omega)))))
        obtain ⟨q, hq⟩ : ∃ q, q = wr.heap.size := ⟨_, rfl⟩
        have hbx : BoxAt wz q (haC x) := by rw [hwz, hq]; exact BoxAt.new wr (haC x) 31
        have k0 := (hbx 0 _ rfl).1
        have k1 := (hbx 1 _ rfl).1
        have k2 := (hbx 2 _ rfl).1
        have k3 := (hbx 3 _ rfl).1
        have HBX := Lib.hid hbx
        have HC := Lib.hid (onc_any x veh VB wz (HX.out.later hbz) (cell_later hbz HVBR.out))
        unfold haV hdV at HC
        have HBZ := Lib.hid hbz
        rw [← hq]
        have HQ := Lib.hid hq
        clear hwz hbz hq hbx q0 q1 q2 q3
        cases hd : onB veh x.1
        · have HC1 := HC.out
          rw [hd] at HC1
          have HC2 := Lib.hid HC1
          have HD := Lib.hid hd
          clear hd HC1
          go_wp2_with fail
          refine Calls.mono HC2.out ?_
          rintro e w5 ⟨rfl, hb5⟩
          have HB5 := Lib.hid (HBZ.out.trans (hb5.mono HBZ.out.size))
          clear hb5 k0 k1 k2 k3
          go_wp2_with fail
          go_roundg (n - j)
          case measure => omega
          case rel => exact ⟨i, j + 1, K, by omega, by omega, by omega, rfl, by go_num, HKL.out, HOWN.out.later HB5.out, by
            rw [List.take_succ_eq_append_getElem hjL, List.filter_append, ← HTK.out, ← HXE.out]
            simp [HD.out], by rw [← List.drop_drop, HDR.out, List.drop_drop], HLR.out.trans (HB5.out.mono HLR.out.size)⟩
        · have HC1 := HC.out
          rw [hd] at HC1
          have HC2 := Lib.hid HC1
          have HD := Lib.hid hd
          clear hd HC1
          go_wp2_with fail
          refine Calls.mono HC2.out ?_
          rintro e w5 ⟨rfl, hb5⟩
          have HB5 := Lib.hid (HBZ.out.trans (hb5.mono HBZ.out.size))
          have j0 := cell_later hb5 k0
          have j1 := cell_later hb5 k1
          have j2 := cell_later hb5 k2
          have j3 := cell_later hb5 k3
          have HO5 := Lib.hid (HOWN.out.later HB5.out)
          have hiK : i < K.length := by omega
          have hat5 : EH.At w5 (some ⟨g, 0, none⟩) K := by
            obtain ⟨a, c, e, _, _, hat, _⟩ := HO5.out.at
            simp only [Value.slice.injEq] at e
            obtain ⟨rfl, _, _⟩ := e
            exact hat
          obtain ⟨p0, p1, p2, p3⟩ := hd_cells hat5 hiK
          simp only [Nat.zero_add] at p0 p1 p2 p3
          have hfz5 : ∀ o, w5.frozen? ⟨g, o, none⟩ = false := fun o => World.ownsRow.frozenAt (by have := HO5.out; unfold El.Own at this; rw [HKL.out] at this; exact this) o
          have f0 := hfz5 (i * 4)
          have f1 := hfz5 (i * 4 + 1)
          have f2 := hfz5 (i * 4 + 2)
          have f3 := hfz5 (i * 4 + 3)
          have m1 : (i : Int) < (n : Int) := by omega
          have m0 : (0 : Int) ≤ (i : Int) := by omega
          clear hb5 k0 k1 k2 k3 hat5 hfz5
          go_wp2_with fail
          have hsn := HO5.out
          rw [← HKL.out] at hsn
          have hst := El.Own.setAt (x := x) hsn hiK
          rw [HKL.out, show EH.S = 4 from rfl] at hst
          change EH.Own (w5.setCells g (i * 4) (haC x)) w0.heap.size (.slice (some ⟨g, 0, none⟩) n gc) (K.set i x) at hst
          simp only [World.setCells] at hst
          have HST := Lib.hid hst
          have HLW := Lib.hid (HLR.out.trans (HB5.out.mono HLR.out.size))
          clear hsn hst j0 j1 j2 j3 p0 p1 p2 p3 f0 f1 f2 f3
          go_roundg (n - j)
          case measure => omega
          case rel => exact ⟨i + 1, j + 1, K.set i x, by omega, by omega, by omega, by go_num, by go_num, by rw [List.length_set]; exact HKL.out, HST.out, by
            rw [List.take_succ_eq_append_getElem (by rw [List.length_set]; exact hiK), List.getElem_set_self, List.take_set_of_le (Nat.le_refl _), HTK.out, List.take_succ_eq_append_getElem hjL, List.filter_append, ← HXE.out]
            simp [HD.out], by
            rw [List.drop_set_of_lt (by omega), ← List.drop_drop, HDR.out, List.drop_drop], by
            repeat refine Below.setCell ?_ hg1 _
            exact HLW.out⟩
      · obtain rfl : j = n := by omega
        obtain ⟨zs, hzs⟩ : ∃ zs, zs = (Builtin.zeroCells EH.z.cells (j - i)).toList := ⟨_, rfl⟩
        have hzl : zs.length = (j - i) * 4 := by rw [hzs]; exact zl_EH _
        have hown' := hown
        unfold El.Own at hown'
        rw [hKl] at hown'
        have hclr := run_clear_el (n := j - i) EH zero_EH (zo_EH _) (zl_EH _) wr 0 g (i * 4) (gc - i) (by omega) (fun o ho => ⟨by
          rw [hown'.cellAt (i * 4 + o) (by rw [show EH.S = 4 from rfl] at ho ⊢; omega)]
          rw [List.getElem?_eq_getElem (by rw [EH.flen, hKl]; rw [show EH.S = 4 from rfl] at ho ⊢; omega)]
          rfl, hown'.frozenAt _⟩)
        rw [← hzs] at hclr
        change (Builtin.clear_ #[26] 0 #[.slice (some ⟨g, i * 4, none⟩) (j - i) (gc - i)]).run Try.prog wr = .ok (.tuple #[]) (wr.setCells g (i * 4) zs) at hclr
        have hat : EH.At wr (some ⟨g, 0, none⟩) K := by
          obtain ⟨a, c, e, _, _, hat, _⟩ := hown.at
          simp only [Value.slice.injEq] at e
          obtain ⟨rfl, _, _⟩ := e
          exact hat
        have hon : onL veh L = K.take i := by
          rw [htk, List.take_of_length_le (by have := HN.out; omega)]
          rfl
        have hlen : (onL veh L).length = i := by rw [hon, List.length_take, hKl]; omega
        have HZL := Lib.hid hzl
        have HAT := Lib.hid hat
        have HON := Lib.hid hon
        have HLEN := Lib.hid hlen
        clear hzs hzl hown hown' hat hon hlen htk hdr
        go_wp2_with fail
        go_ret
        refine ⟨some ⟨g, 0, none⟩, gc, by rw [HLEN.out]; rfl, ?_, below_setCells _ _ _ _ HLR.out hg1⟩
        rw [HON.out]
        intro o u ho
        have hlo : o < i * 4 := by
          have := (List.getElem?_eq_some_iff.1 ho).1
          rw [EH.flen, List.length_take, show EH.S = 4 from rfl] at this
          omega
        have h1 := HAT.out.sub 0 i
        simp only [Nat.zero_mul, Nat.zero_add, List.drop_zero] at h1
        obtain ⟨b, off, e, hc⟩ := h1 o u ho
        cases e
        refine ⟨g, 0, rfl, ?_⟩
        rw [World.cell?_setCells_out _ _ _ _ _ (fun _ _ => .inl (by show 0 + o < i * 4; omega))]
        exact hc
set_option maxRecDepth 100000 in
theorem on_any (L : List HA) (veh : ByteArray) (a : Option Addr) (c : Nat) (w : World) (hA : EH.At w a L) (hL : HAll w L) (hl : L.length ≤ 100000) :
    Calls Try.prog 16 #[.slice a L.length c, .string veh] w (RetL w (onL veh L)) := by
  have hmf : ∀ (fn : Fn) (first cap : Array Value) (w : World), (Instr.makeFunc fn first cap).run Try.prog w = .ok (.func fn first cap) w := fun _ _ _ _ => rfl
  have HA := Lib.hid hA
  have HL := Lib.hid hL
  clear hA hL
  go_enter Try.func16, Try.ntmps16
  go_wp2_with fail
  obtain ⟨wx, hwx⟩ : ∃ wx, wx = w.alloc (Obj.cells #[.string veh] 9) := ⟨_, rfl⟩
  rw [← hwx]
  have hbx : Below w.heap.size w wx := by rw [hwx]; exact (by repeat (first | exact Below.refl _ _ | assumption | refine Below.drew ?_ | refine below_drewN ?_ _ | refine Below.alloc ?_ (by first | omega | (simp; done) | (simp; omega)) _ | refine Below.setCell ?_ (by first | omega | (simp; done) | (simp; omega)) _ | refine Below.trans ?_ (Below.mono (by assumption) (by first | omega | (simp; done) | (simp; omega)))))
  have hc : wx.cell? ⟨w.heap.size, 0, none⟩ = some (.string veh) := by rw [hwx]; simp [go_sem]
  have HBX := Lib.hid hbx
  have HC := Lib.hid hc
  have HLX := Lib.hid (HL.out.later hbx)
  have HCL := Lib.hid (clone_any L a c wx (HA.out.later hbx) hl)
  clear hwx hbx hc
  refine Calls.mono HCL.out ?_
  rintro e w1 ⟨v', rfl, ho, hb1⟩
  have HD := Lib.hid (delete_any L veh w.heap.size v' wx w1 hb1 HLX.out HC.out ho hl)
  clear ho hb1
  go_wp2_with fail
  refine Calls.mono HD.out ?_
  rintro e w2 ⟨a2, c2, rfl, hat, hb2⟩
  have HAT := Lib.hid hat
  have HBW := Lib.hid (HBX.out.trans (hb2.mono HBX.out.size))
  clear hat hb2
  go_wp2_with fail
  go_ret
  exact ⟨a2, c2, rfl, HAT.out, HBW.out⟩
end Go.Proofs.Ytgoomcnaemfjcaa
