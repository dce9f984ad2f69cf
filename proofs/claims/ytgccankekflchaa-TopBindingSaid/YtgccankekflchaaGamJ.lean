


/- Package game: lists of numbers, of truth values and of positions of a call's own; Clone. -/
import Derived.Test.YtgccankekflchaaGamI
import Derived.Test.YtgccankekflchaaJdgQ
import Derived.Test.YtgccankekflchaaEl
namespace Go.Proofs.Ytgccankekflchaa
open Go.RowKit Go.Maps Go.Shelf

def IsTy (w : World) (b : Nat) (T : TypeId) : Prop := ∃ cur, w.heap[b]? = some (.cells cur T (0, 0))
theorem IsTy.block {w w' : World} {b : Nat} {T : TypeId} (h : IsTy w b T) (e : w'.heap[b]? = w.heap[b]?) : IsTy w' b T := by
  obtain ⟨cur, hc⟩ := h
  exact ⟨cur, e.trans hc⟩
theorem IsTy.setCell {w : World} {b : Nat} {T : TypeId} (h : IsTy w b T) (n o : Nat) (u : Value) : IsTy (w.setCell ⟨n, o, none⟩ u) b T := by
  obtain ⟨cur, hc⟩ := h
  by_cases e : b = n
  · subst e
    exact ⟨_, heap_setCell_same w b o cur T u hc⟩
  · exact ⟨cur, (heap_setCell_other w ⟨n, o, none⟩ b u e).trans hc⟩
theorem IsTy.lt {w : World} {b : Nat} {T : TypeId} (h : IsTy w b T) : b < w.heap.size := by
  obtain ⟨cur, hc⟩ := h
  exact (Array.getElem?_eq_some_iff.1 hc).1
theorem IsTy.ne {w : World} {b c : Nat} {T U : TypeId} (h : IsTy w b T) (k : IsTy w c U) (hne : T ≠ U) : b ≠ c := by
  rintro rfl
  obtain ⟨cur, hc⟩ := h
  obtain ⟨cur', hc'⟩ := k
  rw [hc] at hc'
  cases hc'
  exact hne rfl
theorem El.Own.ty {α : Type} {E : El α} {w : World} {B : Nat} {v : Value} {l : List α} (h : E.Own w B v l) {g : Nat} (hg : v.ownBlock = some g) : IsTy w g E.T := by
  rcases h.2 with ⟨rfl, _⟩ | ⟨g', cap, cur, rfl, _, hh, _⟩
  · cases hg
  · cases hg
    exact ⟨cur, hh⟩
theorem BoxAt.block {w w' : World} {n : Nat} {cs : List Value} (h : BoxAt w n cs) (e : w'.heap[n]? = w.heap[n]?) : BoxAt w' n cs := fun o v ho =>
  ⟨(World.cell?_of_block (w := w) (a := ⟨n, o, none⟩) e).trans (h o v ho).1, (World.frozen?_of_block (w := w) (a := ⟨n, o, none⟩) e).trans (h o v ho).2⟩
theorem El.Own.block {α : Type} {E : El α} {w w' : World} {B : Nat} {v : Value} {l : List α} (h : E.Own w B v l) (e : ∀ g, v.ownBlock = some g → w'.heap[g]? = w.heap[g]?) : E.Own w' B v l := by
  refine ⟨h.1, ?_⟩
  rcases h.2 with hn | ⟨g, cap, cur, rfl, hb, hg, rest⟩
  · exact .inl hn
  · exact .inr ⟨g, cap, cur, rfl, hb, (e g rfl).trans hg, rest⟩
theorem El.at_lit' {α : Type} (E : El α) (w : World) (l : List α) (cs : Array Value) (T : TypeId) (hc : cs = (l.flatMap E.cf).toArray) : E.At (w.alloc (.cells cs T)) (some ⟨w.heap.size, 0, none⟩) l := fun j u hu => by
  subst hc
  refine ⟨w.heap.size, 0, rfl, ?_⟩
  rw [Nat.zero_add]
  exact (BoxAt.new w (l.flatMap E.cf) T j u hu).1
theorem El.one_at {α : Type} {E : El α} {w : World} {n : Nat} {x : α} (h : BoxAt w n (E.cf x)) : E.At w (some ⟨n, 0, none⟩) [x] := fun j u hu => by
  refine ⟨n, 0, rfl, ?_⟩
  rw [Nat.zero_add]
  exact (h j u (by simpa using hu)).1
theorem El.Own.shape {α : Type} {E : El α} {w : World} {B : Nat} {v : Value} {l : List α} (h : E.Own w B v l) : ∃ oa n c, v = .slice oa n c := by
  obtain ⟨a, c, e, _⟩ := h.at
  exact ⟨a, l.length, c, e⟩
theorem El.Own.lt {α : Type} {E : El α} {w : World} {B : Nat} {v : Value} {l : List α} (h : E.Own w B v l) : ∀ b, v.ownBlock = some b → B ≤ b ∧ b < w.heap.size := World.ownsRow.lt h
theorem El.Own.mono {α : Type} {E : El α} {w : World} {B B' : Nat} {v : Value} {l : List α} (h : E.Own w B v l) (hB : B' ≤ B) : E.Own w B' v l := by
  refine ⟨h.1, ?_⟩
  rcases h.2 with hn | ⟨g, cap, cur, rfl, hb, rest⟩
  · exact .inl hn
  · exact .inr ⟨g, cap, cur, rfl, Nat.le_trans hB hb, rest⟩
theorem BoxAt.put {w : World} {n : Nat} {cs : List Value} (h : BoxAt w n cs) (o : Nat) (u : Value) (ho : o < cs.length) : BoxAt (w.setCell ⟨n, o, none⟩ u) n (cs.set o u) := fun j v hv => by
  rw [List.getElem?_set] at hv
  refine ⟨?_, ?_⟩
  · split at hv
    · rename_i e
      subst e
      simp only [Option.some.injEq] at hv
      subst hv
      exact World.cell?_setCell_same _ _ _ (h o _ (List.getElem?_eq_getElem ho)).1
    · rename_i e
      rw [World.cell?_setCell_other _ _ _ _ (by intro e2; exact e (congrArg Addr.off e2))]
      exact (h j v hv).1
  · rw [World.frozen?_setCell]
    split at hv
    · rename_i e
      subst e
      exact (h o _ (List.getElem?_eq_getElem ho)).2
    · exact (h j v hv).2
def EB : El Bool := ⟨4, 55, 1, 1, .bool false, fun x => [.bool x], Try.underlying55, by kernel_rfl, rfl, by decide, by decide, fun _ => rfl, fun x u hu => by simp at hu; subst hu; rfl⟩
def EQ : El PA := ⟨57, 28, 6, 80, psZ, psCs, Try.underlying28, by kernel_rfl, rfl, by decide, by decide, fun _ => rfl, fun x u hu => psCs_one [x] u (by simpa using hu)⟩
theorem flatB (l : List Bool) : l.flatMap EB.cf = l.map Value.bool := by
  show l.flatMap (fun x => [Value.bool x]) = _
  induction l with
  | nil => rfl
  | cons x l ih => rw [List.flatMap_cons, ih]; rfl
theorem Bools.el {w : World} {a : Option Addr} {l : List Bool} (h : Bools w a l) : EB.At w a l := fun j u hu => by
  rw [flatB, List.getElem?_map] at hu
  have hj : j < l.length := by
    rcases Nat.lt_or_ge j l.length with hj | hj
    · exact hj
    · rw [List.getElem?_eq_none hj] at hu; cases hu
  obtain ⟨b, off, e, hc⟩ := h j hj
  refine ⟨b, off, e, ?_⟩
  rw [List.getElem?_eq_getElem hj] at hu
  simp only [Option.map_some, Option.some.injEq] at hu
  rw [hc, ← hu, bg_lt hj]
def EI : El Int := ⟨3, 22, 1, 8, .int .i64 0, fun x => [.int .i64 x], Try.underlying22, by kernel_rfl, rfl, by decide, by decide, fun _ => rfl, fun x u hu => by simp at hu; subst hu; rfl⟩
theorem Ints.el {w : World} {a : Option Addr} {l : List Int} (h : Ints w a l) : EI.At w a l := fun j u hu => by
  have hj : j < l.length * 1 := by have := (List.getElem?_eq_some_iff.1 hu).1; rwa [EI.flen] at this
  have e := EI.fat l j (by omega) 0 (by decide)
  rw [show j * EI.S + 0 = j by show j * 1 + 0 = j; omega, hu] at e
  obtain ⟨b, off, e1, hc⟩ := h j (by omega)
  refine ⟨b, off, e1, ?_⟩
  rw [hc, ig_lt (by omega)]
  exact e.symm
theorem El.At.ints {w : World} {a : Option Addr} {l : List Int} (h : EI.At w a l) : Ints w a l := fun j hj => by
  have e := EI.fat l j hj 0 (by decide)
  rw [show j * EI.S + 0 = j by show j * 1 + 0 = j; omega] at e
  obtain ⟨b, off, e1, hc⟩ := h j _ e
  exact ⟨b, off, e1, by rw [hc, ig_lt hj]⟩
theorem El.At.bools {w : World} {a : Option Addr} {l : List Bool} (h : EB.At w a l) : Bools w a l := fun j hj => by
  have e := EB.fat l j hj 0 (by decide)
  rw [show j * EB.S + 0 = j by show j * 1 + 0 = j; omega] at e
  obtain ⟨b, off, e1, hc⟩ := h j _ e
  exact ⟨b, off, e1, by rw [hc, bg_lt hj]⟩
/-- appending of many elements -/
theorem El.appBig {α : Type} {E : El α} (w : World) (B : Nat) (v : Value) (l m : List α) (hown : E.Own w B v l) (ad : Addr) (c : Nat) (hc : E.At w (some ad) m) (hl : l.length + m.length ≤ 100000000000) (hB : B ≤ w.heap.size) (ty : TypeId) :
    ∃ v' w', (Builtin.append_ #[E.TS, E.TS] ty #[v, .slice (some ad) m.length c]).run Try.prog w = .ok v' w' ∧ E.Own w' B v' (l ++ m) ∧ w.grownBy w' v.ownBlock ∧ ∀ b, v'.ownBlock = some b → v.ownBlock = some b ∨ w.heap.size ≤ b := by
  obtain ⟨i0, hi, hz0, hz1, hz2⟩ := infoParts E.info
  have hsm := E.small
  obtain ⟨v', w', hr, ho, hg, hn⟩ := run_append_at (P := Try.prog) w B E.TS ty E.T i0 E.z E.S E.by' E.hT hi hz0 hz1 hz2 E.hz E.pos v l.length _ hown ad m.length c (m.flatMap E.cf) (E.flen m) (fun j u hu => by
    obtain ⟨b, off, e, hcell⟩ := hc j u hu
    obtain rfl := Option.some.inj e
    by_cases h0 : j = 0
    · subst h0; simpa [Addr.add] using hcell
    · simpa [Addr.add, h0] using hcell) (E.fone m) (by unfold maxLen; omega) (Nat.le_trans (Nat.mul_le_mul_left _ hsm) (by omega)) hB
  refine ⟨v', w', hr, ?_, hg, hn⟩
  unfold El.Own
  simpa using ho
set_option maxRecDepth 100000 in
theorem clone_ints (l : List _) (b off : Nat) (c : Nat) (w : World) (hA : (EI).At w (some ⟨b, off, none⟩) l) (hl : l.length ≤ 1000) :
    Calls Try.prog 19 #[.slice (some ⟨b, off, none⟩) l.length c] w (fun e w' => ∃ a k, e = .returned (.slice a l.length k) ∧ (EI).Own w' w.heap.size (.slice a l.length k) l ∧ Below w.heap.size w w') := by
  have heq := fun (w : World) (a : Option Addr) (n c : Nat) => Go.Lib.run_eql_slice_nil (P := Try.prog) w 22 3 a n c 0 0 Try.underlying22
  have hnil := El.Own.lit (E := EI) w w.heap.size (Nat.le_refl _) [] (by simp) #[] rfl
  have hEm : Below w.heap.size w (w.alloc (.cells #[] 3)) := (by repeat (first | exact Below.refl _ _ | assumption | refine Below.drew ?_ | refine below_drewN ?_ _ | refine Below.alloc ?_ (by first | omega | (simp; done) | (simp; omega)) _ | refine Below.setCell ?_ (by first | omega | (simp; done) | (simp; omega)) _ | refine Below.trans ?_ (Below.mono (by assumption) (by first | omega | (simp; done) | (simp; omega)))))
  obtain ⟨v', w2, hr, ho, hg, hn⟩ := El.app (E := EI) _ w.heap.size _ [] l hnil (some ⟨b, off, none⟩) c (hA.later hEm) (by simp; omega) (by simp) 22
  have ho' : (EI).Own w2 w.heap.size v' l := by simpa using ho
  obtain ⟨a, k, rfl, _⟩ := ho'.at
  have HR := Lib.hid hr
  have HO := Lib.hid ho'
  have HB := Lib.hid (show Below w.heap.size w w2 from hEm.grown hg hEm.size (fun b hb => (hnil.lt b hb).1))
  clear hr ho ho' hg hn hnil hEm hA
  go_enter Try.func19, Try.ntmps19
  go_wp2_with (at_builtin; go_loud (refine wpList_app_eq rfl _ _ _ rfl _ _ rfl rfl HR.out ?_))
  go_ret
  exact ⟨_, _, rfl, HO.out, HB.out⟩
set_option maxRecDepth 100000 in
theorem clone_bools (l : List _) (b off : Nat) (c : Nat) (w : World) (hA : (EB).At w (some ⟨b, off, none⟩) l) (hl : l.length ≤ 1000) :
    Calls Try.prog 20 #[.slice (some ⟨b, off, none⟩) l.length c] w (fun e w' => ∃ a k, e = .returned (.slice a l.length k) ∧ (EB).Own w' w.heap.size (.slice a l.length k) l ∧ Below w.heap.size w w') := by
  have heq := fun (w : World) (a : Option Addr) (n c : Nat) => Go.Lib.run_eql_slice_nil (P := Try.prog) w 55 4 a n c 0 0 Try.underlying55
  have hnil := El.Own.lit (E := EB) w w.heap.size (Nat.le_refl _) [] (by simp) #[] rfl
  have hEm : Below w.heap.size w (w.alloc (.cells #[] 4)) := (by repeat (first | exact Below.refl _ _ | assumption | refine Below.drew ?_ | refine below_drewN ?_ _ | refine Below.alloc ?_ (by first | omega | (simp; done) | (simp; omega)) _ | refine Below.setCell ?_ (by first | omega | (simp; done) | (simp; omega)) _ | refine Below.trans ?_ (Below.mono (by assumption) (by first | omega | (simp; done) | (simp; omega)))))
  obtain ⟨v', w2, hr, ho, hg, hn⟩ := El.app (E := EB) _ w.heap.size _ [] l hnil (some ⟨b, off, none⟩) c (hA.later hEm) (by simp; omega) (by simp) 55
  have ho' : (EB).Own w2 w.heap.size v' l := by simpa using ho
  obtain ⟨a, k, rfl, _⟩ := ho'.at
  have HR := Lib.hid hr
  have HO := Lib.hid ho'
  have HB := Lib.hid (show Below w.heap.size w w2 from hEm.grown hg hEm.size (fun b hb => (hnil.lt b hb).1))
  clear hr ho ho' hg hn hnil hEm hA
  go_enter Try.func20, Try.ntmps20
  go_wp2_with (at_builtin; go_loud (refine wpList_app_eq rfl _ _ _ rfl _ _ rfl rfl HR.out ?_))
  go_ret
  exact ⟨_, _, rfl, HO.out, HB.out⟩
end Go.Proofs.Ytgccankekflchaa

