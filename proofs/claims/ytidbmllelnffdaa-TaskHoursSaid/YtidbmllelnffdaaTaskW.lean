
/- The head of this package's laws: the chapter's examples. -/
import Derived.Test.YtidbmllelnffdaaTaskU
namespace Go.Proofs.Ytidbmllelnffdaa
open Go.RowKit

def exL : List Tk := [⟨3, 0, false, []⟩, ⟨2, 0, false, [0]⟩, ⟨4, 0, false, []⟩, ⟨1, 0, false, [1, 2]⟩]
def exC : List Tk := [⟨1, 0, false, [0]⟩]
def RetT (l : List Tk) (w : World) (e : Ending) (w' : World) : Prop := ∃ a cap, e = .returned (.slice a l.length cap) ∧ Tasks w' a l ∧ Below w.heap.size w w'

theorem lt4 {P : Nat → Prop} (h0 : P 0) (h1 : P 1) (h2 : P 2) (h3 : P 3) : ∀ i, i < 4 → P i
  | 0, _ => h0
  | 1, _ => h1
  | 2, _ => h2
  | 3, _ => h3
  | n + 4, h => by omega
theorem lt2 {P : Nat → Prop} (h0 : P 0) (h1 : P 1) : ∀ i, i < 2 → P i
  | 0, _ => h0
  | 1, _ => h1
  | n + 2, h => by omega
theorem lt1 {P : Nat → Prop} (h0 : P 0) : ∀ i, i < 1 → P i
  | 0, _ => h0
  | n + 1, h => by omega

theorem example_at (w : World) : Calls Try.prog 24 #[] w (RetT exL w) := by
  go_enter Try.func24, Try.ntmps24
  go_wp2
  go_ret
  refine ⟨_, 4, rfl, ?_, (by repeat (first | exact Below.refl _ _ | assumption | refine Below.drew ?_ | refine below_drewN ?_ _ | refine Below.alloc ?_ (by first | omega | (simp; done) | (simp; omega)) _ | refine Below.setCell ?_ (by first | omega | (simp; done) | (simp; omega)) _ | refine Below.trans ?_ (Below.mono (by assumption) (by first | omega | (simp; done) | (simp; omega)))))⟩
  refine lt4 ?_ ?_ ?_ ?_
  · exact ⟨_, 0, none, 0, rfl, by simp [go_sem, tg, exL], by simp [go_sem, tg, exL], by simp [go_sem, tg, exL], by simp [go_sem, tg, exL], Ints.nil _ _⟩
  · refine ⟨_, 0, some ⟨w.heap.size, 0, none⟩, 1, rfl, by simp [go_sem, tg, exL], by simp [go_sem, tg, exL], by simp [go_sem, tg, exL], by simp [go_sem, tg, exL], ?_⟩
    exact lt1 ⟨_, 0, rfl, by simp [go_sem, tg, exL, ig]⟩
  · exact ⟨_, 0, none, 0, rfl, by simp [go_sem, tg, exL], by simp [go_sem, tg, exL], by simp [go_sem, tg, exL], by simp [go_sem, tg, exL], Ints.nil _ _⟩
  · refine ⟨_, 0, some ⟨w.heap.size + 1, 0, none⟩, 2, rfl, by simp [go_sem, tg, exL], by simp [go_sem, tg, exL], by simp [go_sem, tg, exL], by simp [go_sem, tg, exL], ?_⟩
    exact lt2 ⟨_, 0, rfl, by simp [go_sem, tg, exL, ig]⟩ ⟨_, 0, rfl, by simp [go_sem, tg, exL, ig]⟩

theorem ex_valid : VT exL := by
  refine ⟨by decide, lt4 ?_ ?_ ?_ ?_⟩ <;> refine ⟨by decide, by decide, by decide, by decide, ?_⟩
  · exact fun r hr => absurd hr (by simp [tg, exL])
  · exact lt1 ⟨by decide, by decide⟩
  · exact fun r hr => absurd hr (by simp [tg, exL])
  · exact lt2 ⟨by decide, by decide⟩ ⟨by decide, by decide⟩
theorem exc_valid : VT exC := ⟨by decide, lt1 ⟨by decide, by decide, by decide, by decide, lt1 ⟨by decide, by decide⟩⟩⟩
theorem ex_order : orderOf exL = [0, 1, 2, 3] := by decide +kernel
theorem exc_order : orderOf exC = [] := by decide +kernel
theorem ex_hv : ∀ i, i < exL.length → HV exL i (ig [3, 5, 4, 6] i) := by
  have h0 : HV exL 0 3 := HV.of (l := exL) (i := 0) (by decide) (f := fun _ => 0) (fun r hr => absurd hr (by simp [tg, exL]))
  have h2 : HV exL 2 4 := HV.of (l := exL) (i := 2) (by decide) (f := fun _ => 0) (fun r hr => absurd hr (by simp [tg, exL]))
  have h1 : HV exL 1 5 := HV.of (l := exL) (i := 1) (by decide) (f := fun _ => 3) (lt1 h0)
  have h3 : HV exL 3 6 := HV.of (l := exL) (i := 3) (by decide) (f := fun k => if k = 1 then 5 else 4) (lt2 h1 h2)
  exact lt4 h0 h1 h2 h3
theorem ex_crit : critL exL = 6 := by
  unfold critL
  rw [ex_order, if_neg (by decide), ← crit_eq (l := exL) (en := [3, 5, 4, 6]) rfl ex_hv]
  rfl
theorem ex_ordL : ordL exL = [0, 1, 2, 3] := by unfold ordL; rw [ex_order]; rfl
theorem ex_ordE : ordE exL = 0 := by unfold ordE; rw [ex_order]; rfl
theorem exc_ordE : ordE exC = 24 := by unfold ordE; rw [exc_order]; rfl
theorem ex_clo : clo exL [true, true, true, true] = true := by decide +kernel
theorem ex_und : und exL [true, true, true, true] 0 = [false, false, true, false] := by
  symm
  refine UI.done (t := 0) ⟨rfl, lt4 ?_ ?_ ?_ ?_, lt4 ?_ ?_ ?_ ?_, rfl⟩ (by decide) (lt4 ?_ ?_ ?_ ?_)
  all_goals first | (intro _; rfl) | (intro _ _; exact .inl rfl) | (intro h; exact absurd h (by decide)) | skip
  · exact fun _ _ => .inr (.one ⟨0, by decide, rfl⟩)
  · exact fun _ h => absurd h (by decide)
  · exact fun _ _ => .inr (.more (j := 1) ⟨0, by decide, rfl⟩ (.one ⟨0, by decide, rfl⟩))
theorem ex_col : col exL [true, false, false, false] 4 = [1, 2] := by decide +kernel
end Go.Proofs.Ytidbmllelnffdaa
