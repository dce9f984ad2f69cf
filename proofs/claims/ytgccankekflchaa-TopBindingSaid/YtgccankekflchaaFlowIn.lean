/- Regions that draw their order, inside a round of a loop over an iterator. -/
import Derived.Test.YtgccankekflchaaChg
import Derived.OrdersIn
import Derived.RangeFuncCalls
namespace Go.Proofs.Ytgccankekflchaa
open Go Go.RowKit

/-- nothing but the normal way out -/
def onlyN (Q : Exit → Act → World → Prop) : Exit → Act → World → Prop
  | .normal, a, w => Q .normal a w
  | _, _, _ => False
theorem onlyN_lets {Q : Exit → Act → World → Prop} : ¬ LetsOut (onlyN Q) := fun ⟨_, _, h⟩ => h
def noDefer (ops : Array Oper) : Bool := ops.all fun o => match o.op with | .defer _ => false | _ => true
theorem noDefer_at {ops : Array Oper} (h : noDefer ops = true) {i : Nat} {o : Oper} (ho : ops[i]? = some o) : ∀ c, o.op ≠ .defer c := fun c e => by
  obtain ⟨hi, he⟩ := Array.getElem?_eq_some_iff.1 ho
  have := Array.all_eq_true.1 h i hi
  rw [he] at this
  simp [e] at this
variable {P : Program}
theorem operIn_of {l n : Nat} {o : Oper} {a : Act} {w : World} {K : Act → World → Prop} {Q Q' : Exit → Act → World → Prop} (hd : ∀ c, o.op ≠ .defer c) (h : o.wp P a w K (onlyN Q')) : o.wpIn (Fence.wide.inRound l) n P a w K Q := by
  unfold Oper.wpIn
  refine ⟨fun _ _ => trivial, ?_⟩
  rw [Oper.semAt_eq _ _ _ hd]
  unfold Oper.wp at h
  generalize (execOp a.eval o).run P w = r at h
  cases r with
  | ok x w' =>
    cases x with
    | value v => exact h
    | skip => exact h
    | defer d => exact h
    | enter f args =>
      refine ⟨fun h => by simp [Fence.wide] at h, (CallsIn.inRound l (callsIn_wide.2 h)).mono ?_⟩
      rintro e w'' he
      cases e with
      | returned v => exact he
      | panicked ch => exact he.elim
      | outgrown => exact absurd he onlyN_lets
    | row row args =>
      refine ⟨fun h => by simp [Fence.wide] at h, ?_⟩
      intro c cs _
      obtain ⟨v, w'', r, s⟩ := h c cs
      exact ⟨v, w'', r, stepsIn_wide.2 s⟩
    | round l f tmps assign body => exact h.elim
    | _ => exact h.elim
  | halt x w' =>
    cases x <;> exact h.elim
theorem wpAnyIn_of {md : Region.Mode} {ops : Array Oper} {Q : Exit → Act → World → Prop} {l n : Nat} (hd : noDefer ops = true) : ∀ (fuel : Nat) (listed : Array Bool) (a : Act) (w : World),
    wpAny P md ops (onlyN Q) fuel listed a w → wpAnyIn (Fence.wide.inRound l) n P md ops Q fuel listed a w := by
  intro fuel
  induction fuel with
  | zero => intro listed a w h; exact h
  | succ fuel ih =>
    intro listed a w ⟨h0, h1⟩
    refine ⟨h0, fun i hi => ?_⟩
    have h := h1 i hi
    unfold wpOp at h
    unfold wpOpIn
    cases ho : ops[i]? with
    | none => rw [ho] at h; exact ih _ _ _ h
    | some o =>
      rw [ho] at h
      dsimp only at h ⊢
      split
      · rename_i hw
        rw [if_pos hw] at h
        rcases h with h | h
        · exact Oper.wpIn_mono (fun a w => ih _ a w) (operIn_of (noDefer_at hd ho) h)
        · exact absurd h.2 onlyN_lets
      · rename_i hw
        rw [if_neg hw] at h
        exact ⟨fun _ _ => trivial, ih _ _ _ h⟩
theorem wpIn_flow {id l n : Nat} {Q : Exit → Act → World → Prop} {a : Act} {w : World} {ops : Array Oper} (I : (Nat → Value) → (Nat → Bool) → World → Prop) (hm : P.follows .mixedOrders = true) (hok : flowOk ops = true) (hd : noDefer ops = true)
    (β0 : Nat → Value) (h0 : I β0 (fun i => decide (ops.size ≤ i)) { w with drawn := w.drawn + 1 })
    (h : Flow P ops I (fun A => ∀ β w', I β (fun _ => true) w' → Q .normal (A β) w') ops.toList 0 (fun _ => a)) : (Code.region id ops true).wpIn (Fence.wide.inRound l) n P Q a w :=
  wpIn_region_any hm (wpAnyIn_of hd _ _ _ _ (wpAny_flow (Q := onlyN Q) I hok β0 h0 h))
theorem wpIn_flow_s {w0 : World} {id l n : Nat} {Q : Exit → Act → World → Prop} {a : Act} {ls : List Oper} (bs : List Bx) (gs : List Gx) (hm : P.follows .mixedOrders = true) (hok : flowOk ls.toArray = true) (hd : noDefer ls.toArray = true)
    (hin : ((bs.all fun b => decide (b.k < ls.length)) && (gs.all fun g => decide (g.1 < ls.length))) = true)
    (h : Flow P ls.toArray (SInv w0 bs gs) (fun A => ∀ β w', SInv w0 bs gs β (fun _ => true) w' → Q .normal (A β) w') ls 0 (fun _ => a)) : (Code.region id ls.toArray true).wpIn (Fence.wide.inRound l) n P Q a w0 := by
  rw [Bool.and_eq_true] at hin
  refine wpIn_flow _ hm hok hd (fun _ => undef) ⟨(Below.refl _ _).drew, fun b hb hL => ?_, fun b hb _ _ _ hL _ => ?_, fun g hg hL => ?_⟩ h
  · have := List.all_eq_true.1 hin.1 b hb
    simp at this hL
    omega
  · have := List.all_eq_true.1 hin.1 b hb
    simp at this hL
    omega
  · have := List.all_eq_true.1 hin.2 g hg
    simp at this hL
    omega
theorem wpIn_flow_j {w0 : World} {id l n : Nat} {Q : Exit → Act → World → Prop} {a : Act} {ls : List Oper} (J : (Nat → Value) → (Nat → Bool) → World → Prop) (hm : P.follows .mixedOrders = true) (hok : flowOk ls.toArray = true) (hd : noDefer ls.toArray = true)
    (h0 : J (fun _ => undef) (fun i => decide (ls.length ≤ i)) w0.drew)
    (h : Flow P ls.toArray J (fun A => ∀ β w', J β (fun _ => true) w' → Q .normal (A β) w') ls 0 (fun _ => a)) : (Code.region id ls.toArray true).wpIn (Fence.wide.inRound l) n P Q a w0 :=
  wpIn_flow J hm hok hd (fun _ => undef) (by have e : ls.toArray.size = ls.length := by simp
                                             rw [e]; exact h0) h
end Go.Proofs.Ytgccankekflchaa

