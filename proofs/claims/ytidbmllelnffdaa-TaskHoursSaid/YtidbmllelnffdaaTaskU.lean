
/- What each function of package task answers for every list of a moderate size: task's and the reference's alike. -/
import Derived.Test.YtidbmllelnffdaaTaskR
import Derived.Test.YtidbmllelnffdaaTaskS
namespace Go.Proofs.Ytidbmllelnffdaa
open Go.RowKit

open Classical in
noncomputable def vB (l : List Tk) : Bool := decide (VT l)
open Classical in
theorem vB_iff {l : List Tk} : vB l = true ↔ VT l := by unfold vB; exact decide_eq_true_iff
open Classical in
noncomputable def oL (l : List Tk) : List Int := if VT l then ordL l else []
open Classical in
noncomputable def oE (l : List Tk) : Int := if VT l then ordE l else 1
open Classical in
noncomputable def cL (l : List Tk) : Int := if VT l then critL l else 0
open Classical in
noncomputable def rL (l : List Tk) (d : List Bool) : List Int := if VT l ∧ d.length = l.length then col l d l.length else []
open Classical in
noncomputable def uE (l : List Tk) (d : List Bool) (one : Int) : Int := if VT l then undE l d one else 1
open Classical in
noncomputable def uL (l : List Tk) (d : List Bool) (one : Int) : List Bool := if VT l ∧ undE l d one = 0 then und l d one.toNat else []

theorem oL_len (l : List Tk) : (oL l).length ≤ 40 := by
  unfold oL
  split
  · exact ordE_le ‹_›
  · simp
theorem rL_len (l : List Tk) (d : List Bool) : (rL l d).length ≤ 40 := by
  unfold rL
  split
  · rename_i h
    have := col_len l d l.length
    have := h.1.1
    omega
  · simp
theorem uL_len (l : List Tk) (d : List Bool) (one : Int) : (uL l d one).length ≤ 40 := by
  unfold uL
  split
  · rename_i h
    rw [und_len]
    exact h.1.1
  · simp

theorem valid_all (l : List Tk) (a : Option Addr) (cap : Nat) (w : World) (hT : Tasks w a l) (hl : l.length < 9223372036854775808) (hS : ∀ i, i < l.length → (tg l i).after.length < 9223372036854775808) : (Calls Try.prog 17 #[.slice a l.length cap] w (RetB (.bool (vB l)) w)) ∧ (Calls Try.prog 18 #[.slice a l.length cap] w (RetB (.bool (vB l)) w)) :=
  ⟨valid_any l a cap _ w hT hl (fun _ => hS) vB_iff, rvalid_any l a cap _ w hT hl (fun _ => hS) vB_iff⟩
theorem order_all (l : List Tk) (a : Option Addr) (cap : Nat) (w : World) (hT : Tasks w a l) (hl : l.length < 9223372036854775808) (hS : ∀ i, i < l.length → (tg l i).after.length < 9223372036854775808) : (Calls Try.prog 11 #[.slice a l.length cap] w (RetIE (oL l) (oE l) w)) ∧ (Calls Try.prog 12 #[.slice a l.length cap] w (RetIE (oL l) (oE l) w)) := by
  unfold oL oE
  by_cases hv : VT l
  · rw [if_pos hv, if_pos hv]
    exact ⟨order_at l _ a cap w hT hv rfl, rorder_at l _ a cap w hT hv rfl⟩
  · rw [if_neg hv, if_neg hv]
    exact order_no l a cap w hT hl (fun _ => hS) hv
theorem critical_all (l : List Tk) (a : Option Addr) (cap : Nat) (w : World) (hT : Tasks w a l) (hl : l.length < 9223372036854775808) (hS : ∀ i, i < l.length → (tg l i).after.length < 9223372036854775808) : (Calls Try.prog 13 #[.slice a l.length cap] w (RetNE (cL l) (oE l) w)) ∧ (Calls Try.prog 14 #[.slice a l.length cap] w (RetNE (cL l) (oE l) w)) := by
  unfold cL oE
  by_cases hv : VT l
  · rw [if_pos hv, if_pos hv]
    exact ⟨critical_yes l a cap w hT hl (fun _ => hS) hv, rcritical_yes l a cap w hT hv⟩
  · rw [if_neg hv, if_neg hv]
    exact critical_no l a cap w hT hl (fun _ => hS) hv
theorem ready_all (l : List Tk) (a : Option Addr) (cap : Nat) (w : World) (hT : Tasks w a l) (hl : l.length < 9223372036854775808) (hS : ∀ i, i < l.length → (tg l i).after.length < 9223372036854775808) (d : List Bool) (da : Option Addr) (dc : Nat) (hD : Bools w da d) : (Calls Try.prog 21 #[.slice a l.length cap, .slice da d.length dc] w (RetI (rL l d) w)) ∧ (Calls Try.prog 22 #[.slice a l.length cap, .slice da d.length dc] w (RetI (rL l d) w)) := by
  unfold rL
  by_cases hv : VT l
  · by_cases he : d.length = l.length
    · rw [if_pos ⟨hv, he⟩]
      exact ⟨ready_yes l d a da cap dc w hT hD hv he, rreadyL_yes l d a da cap dc w hT hD hv he⟩
    · rw [if_neg (fun h => he h.2)]
      exact ready_no l d a da cap dc true w hT hl (fun _ => hS) (by simp [hv]) (.inr ⟨rfl, fun h => he h.symm⟩)
  · rw [if_neg (fun h => hv h.1)]
    exact ready_no l d a da cap dc false w hT hl (fun _ => hS) (by simp [hv]) (.inl rfl)
theorem undo_all (l : List Tk) (a : Option Addr) (cap : Nat) (w : World) (hT : Tasks w a l) (hl : l.length < 9223372036854775808) (hS : ∀ i, i < l.length → (tg l i).after.length < 9223372036854775808) (d : List Bool) (da : Option Addr) (dc : Nat) (hD : Bools w da d) (one : Int) (ho : -9223372036854775808 ≤ one ∧ one < 9223372036854775808) :
    (Calls Try.prog 15 #[.slice a l.length cap, .slice da d.length dc, .int .i64 one] w (RetBE (uL l d one) (uE l d one) w)) ∧ (Calls Try.prog 16 #[.slice a l.length cap, .slice da d.length dc, .int .i64 one] w (RetBE (uL l d one) (uE l d one) w)) := by
  unfold uL uE
  by_cases hv : VT l
  · rw [if_pos hv]
    by_cases hE : d.length ≠ l.length ∨ d.length = l.length ∧ (orderOf l).length < l.length ∨ d.length = l.length ∧ ¬ (orderOf l).length < l.length ∧ (one < 0 ∨ l.length ≤ one)
    · have hne : undE l d one ≠ 0 := by
        unfold undE
        rcases hE with h | ⟨h, h'⟩ | ⟨h, h', h''⟩
        · rw [if_pos h]; decide
        · rw [if_neg (by omega), if_pos h']; decide
        · rw [if_neg (by omega), if_neg h', if_pos h'']; decide
      rw [if_neg (fun h => hne h.2)]
      exact undo_err l d one a da cap dc w hT hv ho hE
    · have e1 : d.length = l.length := Classical.byContradiction fun h => hE (.inl h)
      have e2 : ¬ (orderOf l).length < l.length := fun h => hE (.inr (.inl ⟨e1, h⟩))
      have e3 : ¬ (one < 0 ∨ l.length ≤ one) := fun h => hE (.inr (.inr ⟨e1, e2, h⟩))
      obtain ⟨t, rfl⟩ : ∃ t : Nat, one = t := ⟨one.toNat, by omega⟩
      by_cases h5 : clo l d = true ∧ bg d t = true
      · have hu : undE l d t = 0 := by unfold undE; rw [if_neg (by omega), if_neg e2, if_neg e3, if_pos (by simpa using h5)]
        rw [if_pos ⟨hv, hu⟩, hu, Int.toNat_natCast]
        exact ⟨undo_ok l d t a da cap dc w hT hD hv e1 e2 (by omega) h5.1 h5.2, rundo_ok l d t a da cap dc w hT hD hv e1 e2 (by omega) h5.1 h5.2⟩
      · have hu : undE l d t = 5 := by unfold undE; rw [if_neg (by omega), if_neg e2, if_neg e3, if_neg (by simpa using h5)]
        rw [if_neg (fun h => by rw [hu] at h; exact absurd h.2 (by decide)), hu]
        exact ⟨undo_five l d t a da cap dc w hT hD hv e1 e2 (by omega) h5, rundo_five l d t a da cap dc w hT hD hv e1 e2 (by omega) h5⟩
  · rw [if_neg hv, if_neg (fun h => hv h.1)]
    exact undo_no l d one a da cap dc w hT hl (fun _ => hS) hv
end Go.Proofs.Ytidbmllelnffdaa
