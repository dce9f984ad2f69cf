


/- Package game: the order of positions. -/
import Derived.Test.YtgccankekflchaaGamM
import Derived.Sort.Statements
import Derived.Shelf.SlSortCmp.Insertion
namespace Go.Proofs.Ytgccankekflchaa
open Go.RowKit Go.Sort

/-! ### plain: comparisons of three values -/
def cmpI (a b : Int) : Int := if a < b then -1 else if b < a then 1 else 0
def cmpL : List Int → List Int → Int
  | [], [] => 0
  | [], _ :: _ => -1
  | _ :: _, [] => 1
  | a :: l, b :: m => if cmpI a b = 0 then cmpL l m else cmpI a b
def bitI (b : Bool) : Int := if b then 1 else 0
def or0 (a b : Int) : Int := if a = 0 then b else a
/-- the order of the positions of a plan -/
def cmpP (p q : Pos) : Int := or0 (cmpI p.turn q.turn) (or0 (cmpL p.starts q.starts) (or0 (cmpL (p.failed.map bitI) (q.failed.map bitI)) (cmpI p.budget q.budget)))
structure TW {α : Type} (c : α → α → Int) : Prop where
  anti : ∀ x y, c y x = -c x y
  tr : ∀ x y z, c x y ≤ 0 → c y z ≤ 0 → c x z ≤ 0
theorem TW.strict {α : Type} {c : α → α → Int} (h : TW c) {x y z : α} (h1 : c x y ≤ 0) (h2 : c y z ≤ 0) (h3 : c x z = 0) : c x y = 0 ∧ c y z = 0 := by
  have a1 := h.anti x z
  have a2 := h.anti x y
  have a3 := h.anti y z
  have t1 := h.tr z x y (by omega) h1
  have t2 := h.tr y z x h2 (by omega)
  omega
theorem TW.swo {α : Type} {c : α → α → Int} (h : TW c) : SWO (ltOf c) where
  irrefl x := by have := h.anti x x; unfold ltOf; simp; omega
  trans x y z h1 h2 := by
    unfold ltOf at *
    simp only [decide_eq_true_eq] at *
    have := h.tr x y z (by omega) (by omega)
    by_cases h0 : c x z = 0
    · have := h.strict (y := y) (by omega) (by omega) h0; omega
    · omega
  ntrans x y z h1 h2 := by
    unfold ltOf at *
    simp only [decide_eq_false_iff_not] at *
    have a1 := h.anti x y
    have a2 := h.anti y z
    have a3 := h.anti x z
    have := h.tr z y x (by omega) (by omega)
    omega
theorem cmpI_cases (a b : Int) : (a < b ∧ cmpI a b = -1) ∨ (a = b ∧ cmpI a b = 0) ∨ (b < a ∧ cmpI a b = 1) := by
  unfold cmpI
  by_cases h : a < b
  · exact .inl ⟨h, if_pos h⟩
  · by_cases h' : b < a
    · exact .inr (.inr ⟨h', by rw [if_neg h, if_pos h']⟩)
    · exact .inr (.inl ⟨by omega, by rw [if_neg h, if_neg h']⟩)
theorem cmpI_tw : TW cmpI where
  anti x y := by have := cmpI_cases x y; have := cmpI_cases y x; omega
  tr x y z h1 h2 := by have := cmpI_cases x y; have := cmpI_cases y z; have := cmpI_cases x z; omega
theorem cmpI_zero {a b : Int} : cmpI a b = 0 ↔ a = b := by have := cmpI_cases a b; omega
theorem TW.on {α β : Type} {c : β → β → Int} (h : TW c) (f : α → β) : TW (fun x y => c (f x) (f y)) := ⟨fun _ _ => h.anti _ _, fun _ _ _ => h.tr _ _ _⟩
theorem TW.or {α : Type} {c d : α → α → Int} (h : TW c) (k : TW d) : TW (fun x y => or0 (c x y) (d x y)) where
  anti x y := by
    have a1 := h.anti x y
    have a2 := k.anti x y
    simp only [or0]
    split <;> split <;> omega
  tr x y z h1 h2 := by
    simp only [or0] at *
    by_cases e1 : c x y = 0
    · rw [if_pos e1] at h1
      by_cases e2 : c y z = 0
      · rw [if_pos e2] at h2
        have t1 := h.tr x y z (by omega) (by omega)
        have t2 := h.tr z y x (by have := h.anti y z; omega) (by have := h.anti x y; omega)
        have a3 := h.anti x z
        rw [if_pos (by omega)]
        exact k.tr x y z h1 h2
      · rw [if_neg e2] at h2
        have t1 := h.tr x y z (by omega) h2
        rw [if_neg (fun e => e2 (h.strict (by omega) h2 e).2)]
        exact t1
    · rw [if_neg e1] at h1
      have h2' : c y z ≤ 0 := by split at h2 <;> omega
      rw [if_neg (fun e => e1 (h.strict h1 h2' e).1)]
      exact h.tr x y z h1 h2'
theorem cmpL_anti : ∀ l m : List Int, cmpL m l = -cmpL l m
  | [], [] => rfl
  | [], _ :: _ => rfl
  | _ :: _, [] => rfl
  | a :: l, b :: m => by
    have h := cmpI_tw.anti a b
    have ih := cmpL_anti l m
    unfold cmpL
    split <;> split <;> omega
theorem cmpL_tr : ∀ l m n : List Int, cmpL l m ≤ 0 → cmpL m n ≤ 0 → cmpL l n ≤ 0
  | [], _, [], _, _ => by simp [cmpL]
  | [], _, _ :: _, _, _ => by simp [cmpL]
  | a :: l, [], n, h, _ => by simp [cmpL] at h
  | a :: l, b :: m, [], _, h => by simp [cmpL] at h
  | a :: l, b :: m, c :: n, h1, h2 => by
    unfold cmpL at *
    by_cases e1 : cmpI a b = 0
    · rw [if_pos e1] at h1
      have e1' := cmpI_zero.1 e1
      subst e1'
      split
      · rename_i e2
        rw [if_pos e2] at h2
        exact cmpL_tr l m n h1 h2
      · rename_i e2
        rw [if_neg e2] at h2
        exact h2
    · rw [if_neg e1] at h1
      by_cases e2 : cmpI b c = 0
      · have e2' := cmpI_zero.1 e2
        subst e2'
        rw [if_neg e1]
        exact h1
      · rw [if_neg e2] at h2
        rw [if_neg (fun e => e1 (cmpI_tw.strict h1 h2 e).1)]
        exact cmpI_tw.tr a b c h1 h2
theorem cmpL_tw : TW cmpL := ⟨cmpL_anti, cmpL_tr⟩
theorem cmpL_zero : ∀ {l m : List Int}, cmpL l m = 0 → l = m
  | [], [], _ => rfl
  | [], _ :: _, h => by simp [cmpL] at h
  | _ :: _, [], h => by simp [cmpL] at h
  | a :: l, b :: m, h => by
    unfold cmpL at h
    split at h
    · rename_i e
      rw [cmpI_zero.1 e, cmpL_zero h]
    · contradiction
theorem cmpP_tw : TW cmpP := (cmpI_tw.on Pos.turn).or ((cmpL_tw.on Pos.starts).or ((cmpL_tw.on fun p : Pos => p.failed.map bitI).or (cmpI_tw.on Pos.budget)))
theorem bitI_inj {a b : Bool} (h : bitI a = bitI b) : a = b := by cases a <;> cases b <;> simp [bitI] at h ⊢
theorem cmpP_zero {p q : Pos} (h : cmpP p q = 0) : p.st = q.st := by
  unfold cmpP or0 at h
  split at h
  · rename_i h1
    split at h
    · rename_i h2
      split at h
      · rename_i h3
        have e3 := cmpL_zero h3
        have : p.failed = q.failed := by
          have hl : p.failed.length = q.failed.length := by simpa using congrArg List.length e3
          refine List.ext_getElem hl fun i h5 h6 => bitI_inj ?_
          have := congrArg (fun l => l[i]?) e3
          simpa [List.getElem?_map, List.getElem?_eq_getElem h5, List.getElem?_eq_getElem h6] using this
        exact St.ext' (cmpI_zero.1 h1) (cmpL_zero h2) this (cmpI_zero.1 h)
      · contradiction
    · contradiction
  · contradiction
/-! ### the walks -/
theorem cmpL_step {l m : List Int} {i : Nat} (h1 : i < l.length) (h2 : i < m.length) : cmpL (l.drop i) (m.drop i) = if cmpI (ig l i) (ig m i) = 0 then cmpL (l.drop (i + 1)) (m.drop (i + 1)) else cmpI (ig l i) (ig m i) := by
  rw [List.drop_eq_getElem_cons h1, List.drop_eq_getElem_cons h2, ig_lt h1, ig_lt h2]
  rfl
theorem cmpL_over {l m : List Int} {i : Nat} (h1 : i < l.length) (h2 : m.length ≤ i) : cmpL (l.drop i) (m.drop i) = 1 := by
  rw [List.drop_eq_getElem_cons h1, List.drop_eq_nil_of_le h2]
  rfl
theorem cmpL_end {l m : List Int} (h2 : l.length < m.length) : cmpL (l.drop l.length) (m.drop l.length) = -1 := by
  rw [List.drop_eq_nil_of_le (Nat.le_refl _), List.drop_eq_getElem_cons h2]
  rfl
theorem cmpL_both {l m : List Int} (h2 : m.length ≤ l.length) : cmpL (l.drop l.length) (m.drop l.length) = 0 := by
  rw [List.drop_eq_nil_of_le (Nat.le_refl _), List.drop_eq_nil_of_le h2]
  rfl
theorem isNaN_any (a : Int) (w : World) : Calls Try.prog 49 #[.int .i64 a] w (RetS (.bool false) w) := by
  have h : (a == a) = true := by simp
  go_enter Try.func49, Try.ntmps49
  go_wp2
  go_ret
  exact retS (vbool (by simp))
theorem cmp_any (a b : Int) (w : World) : Calls Try.prog 26 #[.int .i64 a, .int .i64 b] w (RetS (.int .i64 (cmpI a b)) w) := by
  by_cases h1 : a < b
  · have HE := Lib.hid (show cmpI a b = -1 from if_pos h1)
    go_enter Try.func26, Try.ntmps26
    go_wp2_with (refine Calls.mono (isNaN_any _ _) ?_; rintro e w' ⟨rfl, rfl⟩)
    go_ret
    exact retS (vint HE.out.symm)
  · by_cases h2 : b < a
    · have HE := Lib.hid (show cmpI a b = 1 from by unfold cmpI; rw [if_neg h1, if_pos h2])
      go_enter Try.func26, Try.ntmps26
      go_wp2_with (refine Calls.mono (isNaN_any _ _) ?_; rintro e w' ⟨rfl, rfl⟩)
      go_ret
      exact retS (vint HE.out.symm)
    · have HE := Lib.hid (show cmpI a b = 0 from by unfold cmpI; rw [if_neg h1, if_neg h2])
      go_enter Try.func26, Try.ntmps26
      go_wp2_with (refine Calls.mono (isNaN_any _ _) ?_; rintro e w' ⟨rfl, rfl⟩)
      go_ret
      exact retS (vint HE.out.symm)
theorem bit_any (b : Bool) (w : World) : Calls Try.prog 27 #[.bool b] w (RetS (.int .i64 (bitI b)) w) := by
  cases b
  · go_enter Try.func27, Try.ntmps27
    go_wp2
    go_ret
    exact retS rfl
  · go_enter Try.func27, Try.ntmps27
    go_wp2
    go_ret
    exact retS rfl
theorem cmpB_any (a b : Bool) (w : World) : Calls Try.prog 25 #[.bool a, .bool b] w (RetS (.int .i64 (cmpI (bitI a) (bitI b))) w) := by
  have hb := fun b w => bit_any b w
  go_enter Try.func25, Try.ntmps25
  go_wp2_with first | (go_at_call 27; refine Calls.mono (bit_any _ _) ?_; rintro e w' ⟨rfl, rfl⟩) | (go_at_call 26; refine Calls.mono (cmp_any _ _ _) ?_; rintro e w' ⟨rfl, rfl⟩)
  go_ret
  exact retS rfl
end Go.Proofs.Ytgccankekflchaa

