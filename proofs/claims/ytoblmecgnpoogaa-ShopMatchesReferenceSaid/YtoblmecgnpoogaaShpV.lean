
/- Package shop: the chapter's examples. -/
import Derived.Test.YtoblmecgnpoogaaShpU
import Derived.Test.YtoblmecgnpoogaaShpO
namespace Go.Proofs.Ytoblmecgnpoogaa
open Go.RowKit

theorem lt3 {P : Nat → Prop} (h0 : P 0) (h1 : P 1) (h2 : P 2) : ∀ i, i < 3 → P i
  | 0, _ => h0
  | 1, _ => h1
  | 2, _ => h2
  | n + 3, h => by omega
theorem lt1 {P : Nat → Prop} (h0 : P 0) : ∀ i, i < 1 → P i
  | 0, _ => h0
  | n + 1, h => by omega
def exL : List Tk := [⟨2, 0, true, []⟩, ⟨3, 0, false, []⟩, ⟨1, 0, true, [0]⟩]
def exS1 : Sh := ⟨[2], 1⟩
def exS2 : Sh := ⟨[1], 1⟩
def exS3 : Sh := ⟨[2], 0⟩
instance (x : Ld) (s : Sh) : Decidable (fitsP x s) := by unfold fitsP; infer_instance
instance (l : List Tk) (st : List Int) (be : List Bool) (h : Int) (k : Nat) : Decidable (EndedAt l st be h k) := by unfold EndedAt; infer_instance
instance (l : List Tk) (s : Sh) (p : Nat → Bool) (k : Nat) : Decidable (fitsBy l s p k) := by unfold fitsBy; infer_instance
theorem ex_valid : VT exL := by
  refine ⟨by decide, lt3 ?_ ?_ ?_⟩ <;> refine ⟨by decide, by decide, by decide, by decide, ?_⟩
  · exact fun r hr => absurd hr (by simp [tg, exL])
  · exact fun r hr => absurd hr (by simp [tg, exL])
  · exact lt1 ⟨by decide, by decide⟩
theorem exS1_v : VS exS1 := ⟨by decide, by decide, by decide, by decide⟩
theorem exS2_v : VS exS2 := ⟨by decide, by decide, by decide, by decide⟩
theorem exS3_v : VS exS3 := ⟨by decide, by decide, by decide, by decide⟩
theorem ex_order : orderOf exL = [0, 1, 2] := by decide +kernel
theorem ex_len : ¬ (orderOf exL).length < exL.length := by rw [ex_order]; decide
theorem can1 : (exL.any fun t => !canB exS1 t) = false := by
  have h : ∀ t ∈ exL, fitsP (addL ld0 t.skill.toNat t.bay 1) exS1 := by decide +kernel
  rw [List.any_eq_false]
  intro t ht
  unfold canB
  rw [fitsB_yes (h t ht)]
  simp
theorem can2 : (exL.any fun t => !canB exS2 t) = false := by
  have h : ∀ t ∈ exL, fitsP (addL ld0 t.skill.toNat t.bay 1) exS2 := by decide +kernel
  rw [List.any_eq_false]
  intro t ht
  unfold canB
  rw [fitsB_yes (h t ht)]
  simp
theorem can3 : (exL.any fun t => !canB exS3 t) = true := by
  rw [List.any_eq_true]
  refine ⟨⟨2, 0, true, []⟩, List.mem_cons_self .., ?_⟩
  unfold canB
  rw [fitsB_no (by decide +kernel)]
  rfl
theorem gr1 : Greedy exL exS1 [0, 0, 2] := by
  refine Greedy.of rfl (by decide) (by decide +kernel) fun k h hk h0 hlt => ?_
  have hk3 : k < 3 := hk
  have : k = 0 ∨ k = 1 ∨ k = 2 := by omega
  rcases this with rfl | rfl | rfl
  · have : h < 0 := hlt
    omega
  · have : h < 0 := hlt
    omega
  · have : h < 2 := hlt
    have : h = 0 ∨ h = 1 := by omega
    rcases this with rfl | rfl <;> decide +kernel
theorem gr2 : Greedy exL exS2 [0, 2, 5] := by
  refine Greedy.of rfl (by decide) (by decide +kernel) fun k h hk h0 hlt => ?_
  have hk3 : k < 3 := hk
  have : k = 0 ∨ k = 1 ∨ k = 2 := by omega
  rcases this with rfl | rfl | rfl
  · have : h < 0 := hlt
    omega
  · have : h < 2 := hlt
    have : h = 0 ∨ h = 1 := by omega
    rcases this with rfl | rfl <;> decide +kernel
  · have : h < 5 := hlt
    have : h = 0 ∨ h = 1 ∨ h = 2 ∨ h = 3 ∨ h = 4 := by omega
    rcases this with rfl | rfl | rfl | rfl | rfl <;> decide +kernel
theorem planR_ok {l : List Tk} {s : Sh} {st st' : List Int} {n : Int} (hv : VT l) (hs : VS s) (ho : ¬ (orderOf l).length < l.length) (hc : (l.any fun t => !canB s t) = false) (g : Greedy l s st') (h : PlanR l s st n) : st = st' ∧ n = 0 := by
  rcases h with ⟨_, _, h⟩ | ⟨_, _, _, _, h⟩ | ⟨_, _, _, _, _, h⟩ | ⟨h0, _, _, _, _, h⟩
  · exact absurd ⟨hv, hs⟩ h
  · exact absurd h ho
  · rw [hc] at h; cases h
  · exact ⟨h.uniq hv g, h0⟩
theorem plan1 {st : List Int} {n : Int} (h : PlanR exL exS1 st n) : st = [0, 0, 2] ∧ n = 0 := planR_ok ex_valid exS1_v ex_len can1 gr1 h
theorem plan2 {st : List Int} {n : Int} (h : PlanR exL exS2 st n) : st = [0, 2, 5] ∧ n = 0 := planR_ok ex_valid exS2_v ex_len can2 gr2 h
theorem plan3 {st : List Int} {n : Int} (h : PlanR exL exS3 st n) : st = [] ∧ n = 2 := by
  rcases h with ⟨_, _, h⟩ | ⟨_, _, _, _, h⟩ | ⟨h1, h2, _, _, _, h⟩ | ⟨h0, _, _, _, h, _⟩
  · exact absurd ⟨ex_valid, exS3_v⟩ h
  · exact absurd h ex_len
  · exact ⟨h2, h1⟩
  · rw [can3] at h; cases h
theorem ho1 : HO exL [0, 0, 2] := ⟨rfl, by decide⟩
theorem ho2 : HO exL [0, 2, 5] := ⟨rfl, by decide⟩
theorem ln_of {l : List Tk} {st : List Int} (hv : VT l) (ho : HO l st) : lnN l st = lenU l st l.length ∧ lnE l st = 0 := by
  have e : lnB l st = true := by unfold lnB; rw [(vB_iff l).2 hv, (hoB_iff l st).2 ho]; rfl
  unfold lnN lnE
  rw [if_pos e, if_pos e]
  exact ⟨rfl, rfl⟩
theorem ln1 : lnN exL [0, 0, 2] = 3 ∧ lnE exL [0, 0, 2] = 0 := by
  obtain ⟨h1, h2⟩ := ln_of ex_valid ho1
  exact ⟨h1.trans (by decide), h2⟩
theorem ln2 : lnN exL [0, 2, 5] = 6 ∧ lnE exL [0, 2, 5] = 0 := by
  obtain ⟨h1, h2⟩ := ln_of ex_valid ho2
  exact ⟨h1.trans (by decide), h2⟩
theorem chk1 : chkB exL exS2 [0, 2, 5] = true := chkB_yes ⟨ex_valid, exS2_v, ho2, lt3 ⟨by decide, by decide +kernel⟩ ⟨by decide, by decide +kernel⟩ ⟨by decide, by decide +kernel⟩⟩
theorem chk2 : chkB exL exS2 [0, 0, 2] = false := chkB_no fun h => by
  have := (h.2.2.2 0 (by decide)).2
  revert this
  decide +kernel
end Go.Proofs.Ytoblmecgnpoogaa
