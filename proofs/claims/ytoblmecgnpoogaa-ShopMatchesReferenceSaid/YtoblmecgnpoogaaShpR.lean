
/- Package shop: Plan's hours and its map of ends, in memory. -/
import Derived.Test.YtoblmecgnpoogaaShpQ
namespace Go.Proofs.Ytoblmecgnpoogaa
open Go.RowKit

abbrev slV (q : Nat × Nat × List Int) : Value := .slice (some ⟨q.1, 0, none⟩) q.2.2.length q.2.1
def endF (F : Int → Option (Nat × Nat × List Int)) : Value → Option Value
  | .int .i64 y => (F y).map slV
  | _ => none
def putE (F : Int → Option (Nat × Nat × List Int)) (y : Int) (q : Option (Nat × Nat × List Int)) : Int → Option (Nat × Nat × List Int) := fun z => if z = y then q else F z
theorem endF_int (F : Int → Option (Nat × Nat × List Int)) (y : Int) : endF F (.int .i64 y) = (F y).map slV := rfl
structure Dyn (w : World) (B : Nat) (k : Blk) (hs : List Int) (g off cap : Nat) (F : Int → Option (Nat × Nat × List Int)) (nm : Nat) : Prop where
  hrs : Hrs w B g off cap hs
  m : MapIs Try.prog 3 w k.M nm (endF F)
  own : ∀ y q, F y = some q → OwnI w B (slV q) q.2.2
  inj : ∀ y y' q q', F y = some q → F y' = some q' → q.1 = q'.1 → y = y'
  gF : ∀ y q, F y = some q → q.1 ≠ g ∧ q.1 ∉ k.l
  gk : g ∉ k.l
section
variable {w w' : World} {B : Nat} {k : Blk} {hs : List Int} {g off cap nm : Nat} {F : Int → Option (Nat × Nat × List Int)} {S : Nat → Prop}
theorem Blk.M_mem (k : Blk) : k.M ∈ k.l := by simp [Blk.l]
theorem Dyn.lt (h : Dyn w B k hs g off cap F nm) {y : Int} {q : Nat × Nat × List Int} (hq : F y = some q) : q.1 < w.heap.size := (World.ownsRow.lt (h.own y q hq) _ rfl).2
theorem Dyn.chg (h : Dyn w B k hs g off cap F nm) (hc : Chg S w w') (hS : ∀ b, S b → b ∈ k.l ∧ b ≠ k.M) : Dyn w' B k hs g off cap F nm :=
  ⟨h.hrs.chg hc (fun e => h.gk (hS _ e).1), hc.map h.m (fun e => (hS _ e).2 rfl), fun y q hq => (h.own y q hq).offP rfl hc (fun e => (h.gF y q hq).2 (hS _ e).1), h.inj, h.gF, h.gk⟩
theorem Dyn.later (h : Dyn w B k hs g off cap F nm) (hb : Below w.heap.size w w') : Dyn w' B k hs g off cap F nm := h.chg (S := fun _ => False) (Chg.of_below hb) fun _ hf => hf.elim
theorem Hrs.tail {h' : Int} {r : List Int} (h : Hrs w B g off cap (h' :: r)) : Hrs w B g (off + 1) (cap - 1) r := by
  have hle : r.length + 1 ≤ cap := h.le
  have gs : ∀ j, ig (h' :: r) (j + 1) = ig r j := fun j => by unfold ig; simp
  refine ⟨h.lo, h.lt, by omega, by have := h.cm; omega, fun j hj => ?_, fun j hj => ?_, fun j hj => ?_⟩
  · rw [show off + 1 + j = off + (j + 1) by omega, ← gs]
    exact h.cell (j + 1) (by show j + 1 < r.length + 1; omega)
  · rw [show off + 1 + j = off + (j + 1) by omega]
    exact h.sp _ (by omega)
  · rw [show off + 1 + j = off + (j + 1) by omega]
    exact h.fz _ (by omega)
theorem Dyn.tail {h' : Int} {r : List Int} (h : Dyn w B k (h' :: r) g off cap F nm) : Dyn w B k r g (off + 1) (cap - 1) F nm := ⟨h.hrs.tail, h.m, h.own, h.inj, h.gF, h.gk⟩
theorem grown_chg {b : Nat} (hg : w.grownBy w' (some b)) : Chg (fun j => j = b) w w' := (Chg.refl (fun j => j = b) w).grown hg (fun j hj _ => by cases hj; rfl)
theorem endF_del (F : Int → Option (Nat × Nat × List Int)) (y : Int) (v : Value) : delF (endF F) (.int .i64 y) v = endF (putE F y none) v := by
  by_cases e : v = .int .i64 y
  · subst e
    rw [delF_at]
    simp [endF, putE]
  · rw [delF_ne _ e]
    unfold endF
    split
    · rename_i z
      have : z ≠ y := fun e' => e (by rw [e'])
      simp [putE, this]
    · rfl
theorem endF_put (F : Int → Option (Nat × Nat × List Int)) (y : Int) (q : Nat × Nat × List Int) (v : Value) : putF (endF F) (.int .i64 y) (slV q) v = endF (putE F y (some q)) v := by
  by_cases e : v = .int .i64 y
  · subst e
    rw [putF_at]
    simp [endF, putE]
  · rw [putF_ne _ _ e]
    unfold endF
    split
    · rename_i z
      have : z ≠ y := fun e' => e (by rw [e'])
      simp [putE, this]
    · rfl
theorem Dyn.del (h : Dyn w B k hs g off cap F nm) (y : Int) (hm : MapIs Try.prog 3 w' k.M nm (delF (endF F) (.int .i64 y))) (hg : w.grownBy w' (some k.M)) : Dyn w' B k hs g off cap (putE F y none) nm := by
  have hc := grown_chg hg
  have hp : ∀ z q, putE F y none z = some q → F z = some q := fun z q hq => by
    unfold putE at hq
    split at hq
    · cases hq
    · exact hq
  refine ⟨h.hrs.chg hc (fun e => h.gk (by rw [e]; exact k.M_mem)), hm.congr (endF_del F y), fun z q hq => (h.own z q (hp z q hq)).offP rfl hc (fun e => (h.gF z q (hp z q hq)).2 (by have e' : q.1 = k.M := e; rw [e']; exact k.M_mem)), fun z z' q q' hq hq' => h.inj z z' q q' (hp z q hq) (hp z' q' hq'), fun z q hq => h.gF z q (hp z q hq), h.gk⟩
theorem Dyn.ins (h : Dyn w B k hs g off cap F nm) (hk : ∀ b ∈ k.l, b < w.heap.size) {hs' : List Int} {g' off' cap' : Nat} (hh : Hrs w' B g' off' cap' hs') (hc : Chg (fun j => j = g) w w') (hg' : g' = g ∨ w.heap.size ≤ g') : Dyn w' B k hs' g' off' cap' F nm := by
  have hgk : g' ∉ k.l := fun e => by
    rcases hg' with rfl | h1
    · exact h.gk e
    · have := hk _ e; omega
  refine ⟨hh, hc.map h.m (fun e => h.gk (by rw [← e]; exact k.M_mem)), fun y q hq => (h.own y q hq).offP rfl hc (h.gF y q hq).1, h.inj, fun y q hq => ⟨fun e => ?_, (h.gF y q hq).2⟩, hgk⟩
  rcases hg' with rfl | h1
  · exact (h.gF y q hq).1 e
  · have := h.lt hq; omega
/-- what the map gives for an hour -/
def getE (F : Int → Option (Nat × Nat × List Int)) (y : Int) : List Int := match F y with | some q => q.2.2 | none => []
theorem Dyn.look (h : Dyn w B k hs g off cap F nm) (y : Int) : ∃ a c, ((endF F (.int .i64 y)).getD (.slice none 0 0) = .slice a (getE F y).length c) ∧ Ints w a (getE F y) ∧ OwnI w B (.slice a (getE F y).length c) (getE F y) := by
  rw [endF_int]
  unfold getE
  cases hf : F y with
  | none => exact ⟨none, 0, rfl, Ints.nil _ _, OwnI.nil _ _⟩
  | some q =>
    have ho := h.own y q hf
    obtain ⟨a, c, e, hi, _⟩ := ho.ints
    refine ⟨a, c, e, hi, ?_⟩
    show OwnI w B (.slice a q.2.2.length c) q.2.2
    rw [← e]
    exact ho
/-- one more that ends at y: the slice grown, the map's entry stored -/
theorem Dyn.add (h : Dyn w B k hs g off cap F nm) (hk : ∀ b ∈ k.l, b < w.heap.size) {w1 w2 : World} {y x : Int} {v' : Value}
    (ho : OwnI w1 B v' (getE F y ++ [x])) (hg : w.grownBy w1 (((endF F (.int .i64 y)).getD (.slice none 0 0)).ownBlock))
    (hn : ∀ b, v'.ownBlock = some b → ((endF F (.int .i64 y)).getD (.slice none 0 0)).ownBlock = some b ∨ w.heap.size ≤ b)
    (hm : MapIs Try.prog 3 w2 k.M (nm + 1) (putF (endF F) (.int .i64 y) v')) (hg2 : w1.grownBy w2 (some k.M)) :
    ∃ q, q.2.2 = getE F y ++ [x] ∧ Dyn w2 B k hs g off cap (putE F y (some q)) (nm + 1) := by
  obtain ⟨b, c, rfl⟩ : ∃ b c, v' = .slice (some ⟨b, 0, none⟩) (getE F y ++ [x]).length c := by
    rcases ho.2 with ⟨_, h0⟩ | ⟨b, c, _, e, _⟩
    · simp at h0
    · exact ⟨b, c, e⟩
  have hob : ((endF F (.int .i64 y)).getD (.slice none 0 0)).ownBlock = (F y).map (·.1) := by
    show (Option.getD ((F y).map slV) (.slice none 0 0)).ownBlock = _
    cases F y <;> rfl
  rw [hob] at hg hn
  have hn := hn b rfl
  -- the blocks of the others
  have hbF : ∀ z q, z ≠ y → F z = some q → q.1 ≠ b := fun z q hz hq e => by
    rcases hn with h1 | h1
    · obtain ⟨q', hq', e'⟩ := Option.map_eq_some_iff.1 h1
      exact hz (h.inj z y q q' hq hq' (by rw [e, e']))
    · have := h.lt hq; omega
  have hbk : b ∉ k.l := fun e => by
    rcases hn with h1 | h1
    · obtain ⟨q', hq', e'⟩ := Option.map_eq_some_iff.1 h1
      exact (h.gF y q' hq').2 (by rw [e']; exact e)
    · have := hk _ e; omega
  have hbg : b ≠ g := fun e => by
    rcases hn with h1 | h1
    · obtain ⟨q', hq', e'⟩ := Option.map_eq_some_iff.1 h1
      exact (h.gF y q' hq').1 (by rw [e']; exact e)
    · have := h.hrs.lt; omega
  have hc1 : Chg (fun j => (F y).map (·.1) = some j) w w1 := (Chg.refl _ w).grown hg (fun j hj _ => hj)
  have hc2 := grown_chg hg2
  have hgM : g ≠ k.M := fun e => h.gk (by rw [e]; exact k.M_mem)
  refine ⟨(b, c, getE F y ++ [x]), rfl, ⟨(h.hrs.chg hc1 (fun e => ?_)).chg hc2 hgM, hm.congr (endF_put F y (b, c, getE F y ++ [x])), fun z q hq => ?_, fun z z' q q' hq hq' e => ?_, fun z q hq => ?_, h.gk⟩⟩
  · obtain ⟨q', hq', e'⟩ := Option.map_eq_some_iff.1 e
    exact (h.gF y q' hq').1 e'
  · unfold putE at hq
    split at hq
    · cases hq
      exact OwnI.offP ho rfl hc2 (fun e => hbk (by have e' : b = k.M := e; rw [e']; exact k.M_mem))
    · rename_i hz
      refine ((h.own z q hq).offP rfl hc1 (fun e => ?_)).offP rfl hc2 (fun e => (h.gF z q hq).2 (by have e' : q.1 = k.M := e; rw [e']; exact k.M_mem))
      obtain ⟨q', hq', e'⟩ := Option.map_eq_some_iff.1 e
      exact hz (h.inj z y q q' hq hq' e'.symm)
  · unfold putE at hq hq'
    split at hq
    · rename_i hz
      cases hq
      split at hq'
      · rename_i hz'
        rw [hz, hz']
      · rename_i hz'
        exact absurd e.symm (hbF z' q' hz' hq')
    · rename_i hz
      split at hq'
      · cases hq'
        exact absurd e (hbF z q hz hq)
      · exact h.inj z z' q q' hq hq' e
  · unfold putE at hq
    split at hq
    · cases hq
      exact ⟨hbg, hbk⟩
    · exact h.gF z q hq
end
end Go.Proofs.Ytoblmecgnpoogaa

