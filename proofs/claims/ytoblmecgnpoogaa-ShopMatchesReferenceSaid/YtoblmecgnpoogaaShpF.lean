

/- Package shop: Check, its closure and the load at an hour. -/
import Derived.Test.YtoblmecgnpoogaaShpE
import Derived.Test.YtoblmecgnpoogaaChg
namespace Go.Proofs.Ytoblmecgnpoogaa
open Go.RowKit

def runs (l : List Tk) (st : List Int) (hour : Int) (k : Nat) : Bool := decide (ig st k ≤ hour) && decide (hour < ig st k + (tg l k).hours)
def ld0 : Ld := ⟨[0, 0, 0, 0, 0, 0, 0, 0], 0, rfl⟩
def loadU (l : List Tk) (st : List Int) (hour : Int) : Nat → Ld
  | 0 => ld0
  | k + 1 => if runs l st hour k then addL (loadU l st hour k) (tg l k).skill.toNat (tg l k).bay 1 else loadU l st hour k
theorem ld0_ig (j : Nat) : ig ld0.p j = 0 := by
  unfold ig ld0
  rw [List.getD_eq_getElem?_getD]
  match j with
  | 0 => rfl
  | 1 => rfl
  | 2 => rfl
  | 3 => rfl
  | 4 => rfl
  | 5 => rfl
  | 6 => rfl
  | 7 => rfl
  | j + 8 => rfl
theorem addL_ig (x : Ld) (sk : Nat) (bay : Bool) (n : Int) (h : sk < 8) (j : Nat) : ig (addL x sk bay n).p j = if sk = j then ig x.p sk + n else ig x.p j := ig_setN _ _ _ _ (by rw [x.hp]; exact h)
theorem loadU_in {l : List Tk} (hv : VT l) (st : List Int) (hour : Int) : ∀ k, k ≤ l.length → (∀ j, 0 ≤ ig (loadU l st hour k).p j ∧ ig (loadU l st hour k).p j ≤ k) ∧ 0 ≤ (loadU l st hour k).b ∧ (loadU l st hour k).b ≤ k
  | 0, _ => by
    unfold loadU
    refine ⟨fun j => by rw [ld0_ig]; omega, ?_⟩
    show (0 : Int) ≤ 0 ∧ (0 : Int) ≤ _
    omega
  | k + 1, hk => by
    obtain ⟨ih1, ih2⟩ := loadU_in hv st hour k (by omega)
    have ht := hv.2 k (by omega)
    have h8 : (tg l k).skill.toNat < 8 := by have := ht.2.2.1; have := ht.2.2.2.1; omega
    unfold loadU
    split
    · refine ⟨fun j => ?_, ?_⟩
      · rw [addL_ig _ _ _ _ h8]
        have h1 := ih1 j
        have h2 := ih1 (tg l k).skill.toNat
        split <;> omega
      · show 0 ≤ (if (tg l k).bay then _ else _) ∧ (if (tg l k).bay then _ else _) ≤ _
        split <;> omega
    · refine ⟨fun j => ?_, by omega⟩
      have h1 := ih1 j
      omega
theorem loadU_S {l : List Tk} (hv : VT l) (st : List Int) (hour : Int) (k : Nat) (hk : k ≤ l.length) : LdS (loadU l st hour k) := by
  obtain ⟨h1, h2⟩ := loadU_in hv st hour k hk
  have := hv.1
  exact ⟨fun j => by have := h1 j; omega, by omega⟩
/-- a task of the After ends too late -/
def late (l : List Tk) (st : List Int) (hour : Int) (k : Int) : Bool := decide (hour < ig st k.toNat + (tg l k.toNat).hours)
def goodAt (l : List Tk) (s : Sh) (st : List Int) (i : Nat) : Prop := (tg l i).after.any (late l st (ig st i)) = false ∧ fitsP (loadU l st (ig st i) l.length) s
def chkP (l : List Tk) (s : Sh) (st : List Int) : Prop := VT l ∧ VS s ∧ HO l st ∧ ∀ i, i < l.length → goodAt l s st i
noncomputable def chkB (l : List Tk) (s : Sh) (st : List Int) : Bool := @decide (chkP l s st) (Classical.propDecidable _)
theorem chkB_yes {l : List Tk} {s : Sh} {st : List Int} (h : chkP l s st) : chkB l s st = true := @decide_eq_true _ (Classical.propDecidable _) h
theorem chkB_no {l : List Tk} {s : Sh} {st : List Int} (h : ¬ chkP l s st) : chkB l s st = false := @decide_eq_false _ (Classical.propDecidable _) h
set_option maxRecDepth 100000 in
set_option maxHeartbeats 4000000 in
theorem check1_any (l : List Tk) (st : List Int) (hour : Int) (m : Nat) (a ia : Option Addr) (cap ic P3 P5 P9 : Nat) (w : World) (hT : Tasks w a l) (hI : Ints w ia st) (hv : VT l) (ho : HO l st) (hm : m < l.length)
    (c3 : w.cell? ⟨P3, 0, none⟩ = some (.slice a l.length cap)) (c5 : w.cell? ⟨P5, 0, none⟩ = some (.slice ia st.length ic)) (c9 : w.cell? ⟨P9, 0, none⟩ = some (.int .i64 hour)) :
    Calls Try.prog 40 #[.int .i64 m, .pointer (some ⟨P5, 0, none⟩), .pointer (some ⟨P3, 0, none⟩), .pointer (some ⟨P9, 0, none⟩)] w (RetB (.bool (late l st hour m)) w) := by
  have hmS : m < st.length := by rw [ho.1]; exact hm
  have hto := And.intro (hv.2 m hm).1 (hv.2 m hm).2.1
  have hst := ho.2 _ (ig_mem (l := st) (i := m) hmS)
  obtain ⟨tb, to, aa, ac, rfl, d0, _, _, _, _⟩ := hT m hm
  obtain ⟨ib, io, rfl, fi⟩ := hI.fam (by omega)
  have di := fi m hmS
  have hl : late l st hour m = decide (hour < ig st m + (tg l m).hours) := by unfold late; rw [Int.toNat_natCast]
  obtain ⟨r, hr⟩ : ∃ r, r = late l st hour m := ⟨_, rfl⟩
  rw [← hr] at hl ⊢
  obtain ⟨n, hn⟩ : ∃ n, n = l.length := ⟨_, rfl⟩
  obtain ⟨n2, hn2⟩ : ∃ n, n = st.length := ⟨_, rfl⟩
  obtain ⟨th, hth⟩ : ∃ u, u = (tg l m).hours := ⟨_, rfl⟩
  obtain ⟨si, hsi⟩ : ∃ u, u = ig st m := ⟨_, rfl⟩
  rw [← hn] at c3 hm
  rw [← hn2] at c5 hmS
  rw [← hth] at d0 hl hto
  rw [← hsi] at di hl hst
  have HL := Lib.hid hl
  have n0 : (0 : Int) ≤ (m : Int) := by omega
  have n1 : (m : Int) < (n : Int) := by omega
  have n2' : (m : Int) < (n2 : Int) := by omega
  have hw1 : IntKind.i64.wrap (si + th) = si + th := IntWalk.i64_in _ (by omega)
  clear hT hI hv ho fi hr hn hn2 hth hsi hl hm hmS
  have hS : ∀ wy : World, Below w.heap.size w wy → wy.cell? ⟨P3, 0, none⟩ = some (.slice (some ⟨tb, to, none⟩) n cap) ∧ wy.cell? ⟨P5, 0, none⟩ = some (.slice (some ⟨ib, io, none⟩) n2 ic) ∧ wy.cell? ⟨P9, 0, none⟩ = some (.int .i64 hour) ∧ wy.cell? ⟨tb, to + m * 4, none⟩ = some (.int .i64 th) ∧ wy.cell? ⟨ib, io + m, none⟩ = some (.int .i64 si) := fun wy hy => ⟨cell_later hy c3, cell_later hy c5, cell_later hy c9, cell_later hy d0, cell_later hy di⟩
  obtain ⟨bb, hbb⟩ : ∃ bb, bb = decide (hour < si + th) := ⟨_, rfl⟩
  have e1 : decide (hour < si + th) = bb := hbb.symm
  have HE := Lib.hid (show r = bb from by rw [HL.out]; exact e1)
  clear hbb
  cases bb <;> (
    go_enter Try.func40, Try.ntmps40
    go_wp2_with fail
    refine wp_flow_s [] [] (by kernel_rfl) (by kernel_rfl) (by kernel_rfl) ?_
    repeat (first | ((with_reducible refine Flow.pure hS StayG.nil (v := ?_) ?_ ?_ ?_ ?_); rotate_left 1; (focus kernel_rfl); (focus (intro _; rfl)); (focus (intro β wx hSw; (try dsimp only at hSw); go_simp; (try with_reducible rfl); done)); (try simp only [Act.put, List.setIfInBounds_toArray, List.set_cons_zero, List.set_cons_succ, Nat.reduceAdd])) | ((with_reducible refine Flow.skip StayG.nil ?_ ?_ ?_); (focus kernel_rfl); (focus (intro _; rfl)); (try simp only [Act.put, List.setIfInBounds_toArray, List.set_cons_zero, List.set_cons_succ, Nat.reduceAdd])))
    ((with_reducible refine Flow.stop ?_); dsimp only; intro β w9 hI9)
    have HB9 := Lib.hid hI9.below
    clear hS hI9 c3 c5 c9 d0 di
    go_wp2_with fail
    go_ret
    exact retB (vbool HE.out.symm) HB9.out)
end Go.Proofs.Ytoblmecgnpoogaa

