
/- Package judge: lists of positions of a call's own. -/
import Derived.Test.YtgccankekflchaaJdgOpen
namespace Go.Proofs.Ytgccankekflchaa
open Go.RowKit

abbrev PA := Pos × AdP
abbrev psCs (x : PA) : List Value := psC x.1 x.2
theorem info_pos : (Try.prog.info? 57).map (fun i => (i.zero, i.size, i.bytes)) = some (some psZ, 6, 80) := by kernel_rfl
theorem psCs_len (l : List PA) : (l.flatMap psCs).length = l.length * 6 := by
  induction l with
  | nil => rfl
  | cons x l ih => rw [List.flatMap_cons, List.length_append, ih]; show 6 + l.length * 6 = (l.length + 1) * 6; omega
/-- the slice v holds these positions, in a block of the call's own from B on -/
def OwnP (w : World) (B : Nat) (v : Value) (l : List PA) : Prop := w.ownsRow B 57 6 v l.length (l.flatMap psCs)
def PsAll (w : World) (l : List PA) : Prop := ∀ x ∈ l, PsAt w x.1 x.2.1 x.2.2.2.1
theorem PsAll.later {w w1 : World} {l : List PA} (h : PsAll w l) (hb : Below w.heap.size w w1) : PsAll w1 l := fun x hx => (h x hx).later hb
theorem OwnP.later {w w1 : World} {B : Nat} {v : Value} {l : List PA} (h : OwnP w B v l) (hb : Below w.heap.size w w1) : OwnP w1 B v l :=
  World.ownsRow.kept h (show w.grownBy w1 none from ⟨hb.os, hb.tape, hb.output, hb.size, fun k hk _ => hb.block k hk⟩) (by cases v.ownBlock <;> simp)
theorem flatP_at (l : List PA) : ∀ k (hk : k < l.length) c, c < 6 → (l.flatMap psCs)[k * 6 + c]? = (psCs l[k])[c]? := by
  induction l with
  | nil => intro k hk; simp at hk
  | cons s l ih =>
    intro k hk c hc
    rw [List.flatMap_cons]
    cases k with
    | zero => rw [List.getElem?_append_left (by show 0 * 6 + c < 6; omega)]; simp
    | succ k =>
      rw [List.getElem?_append_right (by show 6 ≤ _; omega), show (psCs s).length = 6 from rfl, show (k + 1) * 6 + c - 6 = k * 6 + c by omega]
      exact ih k (by simpa using hk) c hc
def pvL (l : List PA) (j : Nat) : Value := match l[j]? with | some x => psV x.1 x.2.1 x.2.2.1 x.2.2.2.1 x.2.2.2.2 | none => undef
theorem OwnP.plan {w : World} {B : Nat} {v : Value} {l : List PA} (h : OwnP w B v l) (hp : PsAll w l) : ∃ a c, v = .slice a l.length c ∧ l.length ≤ c ∧ PlanAt w a (l.map (·.1)) (pvL l) := by
  have h' := h
  obtain ⟨h1, ⟨e, h2⟩ | ⟨g, cap, cur, rfl, hb, _, hn, _⟩⟩ := h
  · obtain rfl : l = [] := List.eq_nil_of_length_eq_zero h2
    exact ⟨none, 0, e, by simp, fun j hj => absurd hj (by simp)⟩
  · refine ⟨some ⟨g, 0, none⟩, cap, rfl, hn, fun k hk => ?_⟩
    rw [List.length_map] at hk
    have key : ∀ c u, c < 6 → (psCs l[k])[c]? = some u → w.cell? ⟨g, k * 6 + c, none⟩ = some u := fun c u hc hu => by
      rw [World.ownsRow.cellAt h' (k * 6 + c) (by omega), flatP_at l k hk c hc]
      exact hu
    refine ⟨g, 0, l[k].2.1, l[k].2.2.1, l[k].2.2.2.1, l[k].2.2.2.2, rfl, ?_, ?_, ?_⟩
    · unfold pvL
      rw [List.getElem?_eq_getElem hk]
      simp
    · rw [Nat.zero_add]
      simp only [List.getElem_map]
      exact ⟨key 0 _ (by omega) rfl, key 1 _ (by omega) rfl, key 2 _ (by omega) rfl, key 3 _ (by omega) rfl, key 4 _ (by omega) rfl, key 5 _ (by omega) rfl⟩
    · simp only [List.getElem_map]
      exact hp _ (List.getElem_mem hk)
/-- a list that came in, named element by element -/
theorem PlanAt.list {w : World} {a : Option Addr} {plan : List Pos} {pv : Nat → Value} (h : PlanAt w a plan pv) : ∃ l : List PA, l.map (·.1) = plan ∧ PsAll w l ∧ ∀ b off, a = some ⟨b, off, none⟩ → ∀ j u, (l.flatMap psCs)[j]? = some u → w.cell? ⟨b, off + j, none⟩ = some u := by
  obtain ⟨A, hA⟩ := Classical.axiomOfChoice (α := Fin plan.length) (β := fun _ => AdP) (r := fun x A => ∃ b off, a = some ⟨b, off, none⟩ ∧ PosCells w b (off + x * 6) plan[x] A.1 A.2.1 A.2.2.1 A.2.2.2 ∧ PsAt w plan[x] A.1 A.2.2.1) fun x => by
    obtain ⟨b, off, sa, sc, fa, fc, h1, _, h3, h4⟩ := h x x.2
    exact ⟨(sa, sc, fa, fc), b, off, h1, h3, h4⟩
  refine ⟨(List.finRange plan.length).map fun x => (plan[x], A x), ?_, ?_, ?_⟩
  · rw [List.map_map]
    refine List.ext_getElem (by simp) fun i h1 h2 => ?_
    simp
  · intro x hx
    obtain ⟨i, _, rfl⟩ := List.mem_map.1 hx
    obtain ⟨_, _, _, _, h4⟩ := hA i
    exact h4
  · intro b off ha j u hu
    have hj : j < ((List.finRange plan.length).map fun x => (plan[x], A x) : List PA).length * 6 := by
      have := (List.getElem?_eq_some_iff.1 hu).1
      rwa [psCs_len] at this
    rw [List.length_map, List.length_finRange] at hj
    have hk : j / 6 < plan.length := by omega
    have e := flatP_at ((List.finRange plan.length).map fun x => (plan[x], A x)) (j / 6) (by simpa using hk) (j % 6) (by omega)
    rw [show j / 6 * 6 + j % 6 = j by omega, hu] at e
    simp only [List.getElem_map, List.getElem_finRange] at e
    obtain ⟨b', off', ha', hc, _⟩ := hA ⟨j / 6, hk⟩
    rw [ha] at ha'
    cases ha'
    simp only at hc
    have hm : j % 6 = 0 ∨ j % 6 = 1 ∨ j % 6 = 2 ∨ j % 6 = 3 ∨ j % 6 = 4 ∨ j % 6 = 5 := by omega
    rw [show off + j = off + j / 6 * 6 + j % 6 by omega]
    rcases hm with e' | e' | e' | e' | e' | e' <;> rw [e'] at e ⊢ <;> cases e
    · exact hc.c0
    · exact hc.c1
    · exact hc.c2
    · exact hc.c3
    · exact hc.c4
    · exact hc.c5
theorem psCs_one (l : List PA) : ∀ u ∈ l.flatMap psCs, u.oneCell' = true := by
  intro u hu
  obtain ⟨x, _, hu⟩ := List.mem_flatMap.1 hu
  simp only [psCs, psC, List.mem_cons, List.not_mem_nil, or_false] at hu
  rcases hu with rfl | rfl | rfl | rfl | rfl | rfl <;> rfl
/-- out = append(out, xs...), xs any list of positions -/
theorem append_poss (w : World) {ops : Array Oper} {rest : List Oper} {o : Oper} {a : Act} {Q : Exit → Act → World → Prop} (hgd : o.guard = none) (s x : Operand)
    (ho : o.op = .call { callee := .builtin .append, args := #[s, x], argTypes := #[28, 28] }) (B : Nat) (v : Value) (l m : List PA) (hs : a.eval s = v) (hown : OwnP w B v l)
    (ad : Option Addr) (c : Nat) (hx : a.eval x = .slice ad m.length c) (hc : ∀ j u, (m.flatMap psCs)[j]? = some u → ∃ b off, ad = some ⟨b, off, none⟩ ∧ w.cell? ⟨b, off + j, none⟩ = some u) (hn : ad = none → c = 0) (hl : l.length + m.length ≤ 1000000000) (hB : B ≤ w.heap.size)
    (h : ∀ v' w', OwnP w' B v' (l ++ m) → w.grownBy w' v.ownBlock → (∀ b, v'.ownBlock = some b → v.ownBlock = some b ∨ w.heap.size ≤ b) → wpList Try.prog ops Q rest (a.put o.dst v') w') : wpList Try.prog ops Q (o :: rest) a w := by
  obtain ⟨i0, hi, hz0, hz1, hz2⟩ := info_parts info_pos
  cases ad with
  | none =>
    obtain rfl : c = 0 := hn rfl
    have hm : m = [] := by
      cases m with
      | nil => rfl
      | cons y m =>
        obtain ⟨_, _, e, _⟩ := hc 0 _ rfl
        cases e
    subst hm
    refine wpList_plain hgd fun K hK' => ?_
    have hrun := run_append_owned_none (P := Try.prog) w B 28 o.type 57 i0 6 Try.underlying28 hi v l.length _ hown
    unfold Oper.wp
    simp [execOp, ho, resolve, invoke, builtin, hs, hx, hrun, Result.andThen]
    exact hK' _ _ (h v w (by simpa using hown) (World.grownBy.refl _ _) (fun b hb => .inl hb))
  | some ad =>
    refine wpList_append_at hgd s x 28 ho B 57 i0 psZ 6 80 Try.underlying28 hi hz0 hz1 hz2 rfl (by decide) v l.length _ hs hown ad m.length c (m.flatMap psCs) hx (psCs_len m) ?_ (psCs_one m) (by unfold maxLen; omega) (by omega) hB fun v' w' h1 h2 h3 => h v' w' ?_ h2 h3
    · intro j u hu
      obtain ⟨b, off, e, hcell⟩ := hc j u hu
      obtain rfl := Option.some.inj e
      by_cases h0 : j = 0
      · subst h0; simpa [Addr.add] using hcell
      · simpa [Addr.add, h0] using hcell
    · unfold OwnP
      simpa using h1
end Go.Proofs.Ytgccankekflchaa

