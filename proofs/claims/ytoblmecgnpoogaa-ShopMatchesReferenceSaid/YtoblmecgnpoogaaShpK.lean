
/- Package shop: what Plan keeps, in plain Lean: loads as counts, and the record of right decisions. -/
import Derived.Test.YtoblmecgnpoogaaShpI
import Derived.Test.YtoblmecgnpoogaaShpJ
namespace Go.Proofs.Ytoblmecgnpoogaa
open Go.RowKit

/-! ### counts -/
def cntP (p : Nat → Bool) : Nat → Nat
  | 0 => 0
  | k + 1 => cntP p k + if p k then 1 else 0
theorem cntP_le (p : Nat → Bool) : ∀ n, cntP p n ≤ n
  | 0 => Nat.le_refl _
  | n + 1 => by
    have := cntP_le p n
    unfold cntP
    split <;> omega
theorem cntP_congr {p q : Nat → Bool} : ∀ {n}, (∀ k, k < n → p k = q k) → cntP p n = cntP q n
  | 0, _ => rfl
  | n + 1, h => by
    unfold cntP
    rw [cntP_congr (n := n) fun k hk => h k (by omega), h n (by omega)]
theorem cntP_mono {p q : Nat → Bool} : ∀ {n}, (∀ k, k < n → p k = true → q k = true) → cntP p n ≤ cntP q n
  | 0, _ => Nat.le_refl _
  | n + 1, h => by
    have i := cntP_mono (n := n) fun k hk => h k (by omega)
    have j := h n (by omega)
    unfold cntP
    cases hp : p n
    · exact Nat.le_trans i (Nat.le_add_right _ _)
    · rw [j hp]
      exact Nat.add_le_add_right i 1
theorem cntP_set {p q : Nat → Bool} {i : Nat} (hp : p i = false) (hq : q i = true) : ∀ {n}, i < n → (∀ k, k < n → k ≠ i → q k = p k) → cntP q n = cntP p n + 1
  | 0, h, _ => absurd h (by omega)
  | n + 1, h, hk => by
    unfold cntP
    by_cases e : i = n
    · subst e
      rw [hp, hq, cntP_congr (n := i) fun k hk' => hk k (by omega) (by omega)]
      simp
    · rw [cntP_set hp hq (n := n) (by omega) fun k hk' => hk k (by omega), hk n (by omega) (by omega)]
      omega
/-! ### loads -/
def loadP (l : List Tk) (p : Nat → Bool) : Nat → Ld
  | 0 => ld0
  | k + 1 => if p k then addL (loadP l p k) (tg l k).skill.toNat (tg l k).bay 1 else loadP l p k
theorem VT.skill {l : List Tk} (hv : VT l) {k : Nat} (hk : k < l.length) : (tg l k).skill.toNat < 8 := by
  have ht := hv.2 k hk
  have := ht.2.2.1
  have := ht.2.2.2.1
  omega
theorem loadP_ig {l : List Tk} (hv : VT l) (p : Nat → Bool) (j : Nat) : ∀ n, n ≤ l.length → ig (loadP l p n).p j = cntP (fun k => p k && decide ((tg l k).skill.toNat = j)) n
  | 0, _ => ld0_ig j
  | n + 1, hn => by
    have i := loadP_ig hv p j n (by omega)
    have h8 := hv.skill (k := n) (by omega)
    unfold loadP cntP
    cases hp : p n
    · simp [i]
    · simp only [if_true, Bool.true_and]
      rw [addL_ig _ _ _ _ h8]
      by_cases e : (tg l n).skill.toNat = j
      · subst e
        simp [i]
      · simp [e, i]
theorem loadP_b {l : List Tk} (p : Nat → Bool) : ∀ n, (loadP l p n).b = cntP (fun k => p k && (tg l k).bay) n
  | 0 => rfl
  | n + 1 => by
    have i := loadP_b (l := l) p n
    unfold loadP cntP
    cases hp : p n
    · simp [i]
    · simp only [if_true, Bool.true_and]
      show (if (tg l n).bay then _ else _) = _
      cases hb : (tg l n).bay
      · simp [i]
      · simp [i]
theorem Ld.ext' {x y : Ld} (hp : ∀ j, ig x.p j = ig y.p j) (hb : x.b = y.b) : x = y := by
  obtain ⟨xp, xb, xh⟩ := x
  obtain ⟨yp, yb, yh⟩ := y
  have : xp = yp := List.ext_getElem (by rw [xh, yh]) fun j h1 h2 => by
    have := hp j
    simp only at this
    rwa [ig_lt h1, ig_lt h2] at this
  subst this
  simp only at hb
  subst hb
  rfl
theorem loadP_congr {l : List Tk} {p q : Nat → Bool} : ∀ {n}, (∀ k, k < n → p k = q k) → loadP l p n = loadP l q n
  | 0, _ => rfl
  | n + 1, h => by
    unfold loadP
    rw [loadP_congr (n := n) fun k hk => h k (by omega), h n (by omega)]
theorem loadP_S {l : List Tk} (hv : VT l) (p : Nat → Bool) {n : Nat} (hn : n ≤ l.length) : LdS (loadP l p n) := by
  have h40 := hv.1
  constructor
  · intro j
    rw [loadP_ig hv p j n hn]
    have := cntP_le (fun k => p k && decide ((tg l k).skill.toNat = j)) n
    omega
  · rw [loadP_b]
    have := cntP_le (fun k => p k && (tg l k).bay) n
    omega
theorem loadP_add {l : List Tk} (hv : VT l) {p q : Nat → Bool} {i n : Nat} (hi : i < n) (hn : n ≤ l.length) (hp : p i = false) (hq : q i = true) (hk : ∀ k, k < n → k ≠ i → q k = p k) :
    loadP l q n = addL (loadP l p n) (tg l i).skill.toNat (tg l i).bay 1 := by
  have h8 := hv.skill (k := i) (by omega)
  refine Ld.ext' (fun j => ?_) ?_
  · rw [addL_ig _ _ _ _ h8, loadP_ig hv q j n hn, loadP_ig hv p j n hn, loadP_ig hv p _ n hn]
    by_cases e : (tg l i).skill.toNat = j
    · rw [if_pos e]
      subst e
      rw [cntP_set (p := fun k => p k && decide ((tg l k).skill.toNat = (tg l i).skill.toNat)) (q := fun k => q k && decide ((tg l k).skill.toNat = (tg l i).skill.toNat)) (i := i) (by simp [hp]) (by simp [hq]) hi (fun k h1 h2 => by simp only [hk k h1 h2])]
      rfl
    · rw [if_neg e]
      congr 1
      refine cntP_congr fun k h1 => ?_
      by_cases h2 : k = i
      · subst h2; simp [e]
      · simp only [hk k h1 h2]
  · show _ = if (tg l i).bay then (loadP l p n).b + 1 else (loadP l p n).b
    rw [loadP_b, loadP_b]
    cases hb : (tg l i).bay
    · simp only [Bool.false_eq_true, if_false]
      congr 1
      refine cntP_congr fun k h1 => ?_
      by_cases h2 : k = i
      · subst h2; simp [hb]
      · simp only [hk k h1 h2]
    · rw [if_pos rfl, cntP_set (p := fun k => p k && (tg l k).bay) (q := fun k => q k && (tg l k).bay) (i := i) (by simp [hp]) (by simp [hq, hb]) hi (fun k h1 h2 => by simp only [hk k h1 h2])]
      rfl
theorem loadP_sub {l : List Tk} (hv : VT l) {p q : Nat → Bool} {i n : Nat} (hi : i < n) (hn : n ≤ l.length) (hp : p i = false) (hq : q i = true) (hk : ∀ k, k < n → k ≠ i → q k = p k) :
    loadP l p n = addL (loadP l q n) (tg l i).skill.toNat (tg l i).bay (-1) := by
  have h8 := hv.skill (k := i) (by omega)
  have e := loadP_add hv hi hn hp hq hk
  rw [e]
  refine Ld.ext' (fun j => ?_) ?_
  · rw [addL_ig _ _ _ _ h8, addL_ig _ _ _ _ h8, addL_ig _ _ _ _ h8]
    by_cases e : (tg l i).skill.toNat = j
    · subst e; simp; omega
    · simp [e]
  · show _ = if (tg l i).bay then (if (tg l i).bay then (loadP l p n).b + 1 else (loadP l p n).b) + -1 else (if (tg l i).bay then (loadP l p n).b + 1 else (loadP l p n).b)
    cases (tg l i).bay
    · simp
    · simp; omega
theorem fitsP_mono {x y : Ld} {s : Sh} (hp : ∀ j, ig x.p j ≤ ig y.p j) (hb : x.b ≤ y.b) (h : fitsP y s) : fitsP x s :=
  ⟨fun k hk h0 => by
    have h1 := hp k
    have h2 := h.1 k hk (by omega)
    exact ⟨h2.1, by omega⟩, by have := h.2; omega⟩
theorem fits_sub {l : List Tk} (hv : VT l) {p q : Nat → Bool} {s : Sh} {i : Nat} (hi : i < l.length) (hk : ∀ k, k < l.length → p k = true → q k = true)
    (h : fitsP (addL (loadP l q l.length) (tg l i).skill.toNat (tg l i).bay 1) s) : fitsP (addL (loadP l p l.length) (tg l i).skill.toNat (tg l i).bay 1) s := by
  have h8 := hv.skill hi
  have hm : ∀ j, ig (loadP l p l.length).p j ≤ ig (loadP l q l.length).p j := fun j => by
    rw [loadP_ig hv p j _ (Nat.le_refl _), loadP_ig hv q j _ (Nat.le_refl _)]
    have := cntP_mono (p := fun k => p k && decide ((tg l k).skill.toNat = j)) (q := fun k => q k && decide ((tg l k).skill.toNat = j)) (n := l.length) fun k h1 h2 => by
      simp only [Bool.and_eq_true] at h2 ⊢
      exact ⟨hk k h1 h2.1, h2.2⟩
    omega
  refine fitsP_mono (fun j => ?_) ?_ h
  · rw [addL_ig _ _ _ _ h8, addL_ig _ _ _ _ h8]
    have a := hm j
    have b := hm (tg l i).skill.toNat
    split <;> omega
  · show (if (tg l i).bay then _ else _) ≤ (if (tg l i).bay then _ else _)
    have : (loadP l p l.length).b ≤ (loadP l q l.length).b := by
      rw [loadP_b, loadP_b]
      have := cntP_mono (p := fun k => p k && (tg l k).bay) (q := fun k => q k && (tg l k).bay) (n := l.length) fun k h1 h2 => by
        simp only [Bool.and_eq_true] at h2 ⊢
        exact ⟨hk k h1 h2.1, h2.2⟩
      omega
    split <;> omega
end Go.Proofs.Ytoblmecgnpoogaa

