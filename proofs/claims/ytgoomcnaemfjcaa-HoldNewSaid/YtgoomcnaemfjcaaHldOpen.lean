
/- Lists of strings, of records, and a record, that came in, opened. -/
import Derived.Test.YtgoomcnaemfjcaaLift
import Derived.Test.YtgoomcnaemfjcaaHldE
import Derived.Deep.Slices
import Derived.Deep.Fields
import Derived.Deep.Grids
import Derived.ChangeSame
import Derived.SliceStrings
namespace Go.Proofs.Ytgoomcnaemfjcaa
open Go.ChangeShapes Go.WideShapes Go.ChangeAt Go.RowKit Go.Joins Go.Deep

theorem cells_at {w : World} {a : Addr} {n : Nat} {f : Nat → Value} (hn : 0 < n) (h : ∀ i, i < n → w.cell? (a.add i) = some (f i)) : ∃ b off, a = ⟨b, off, none⟩ ∧ ∀ i, i < n → w.cell? ⟨b, off + i, none⟩ = some (f i) := by
  obtain ⟨b, off, spot⟩ := a
  have h0 := h 0 hn
  cases spot with
  | none =>
    refine ⟨b, off, rfl, fun i hi => ?_⟩
    have := h i hi
    unfold Addr.add at this
    by_cases e : i = 0
    · subst e; simpa using this
    · rw [if_neg e] at this; exact this
  | some s =>
    unfold Addr.add at h0
    rw [if_pos rfl] at h0
    unfold World.cell? at h0
    split at h0 <;> simp at h0


theorem choose_fn {α : Type} (d : α) {m : Nat} {R : Nat → α → Prop} (h : ∀ i, i < m → ∃ t, R i t) : ∃ f : Nat → α, ∀ i, i < m → R i (f i) := by
  classical
  exact ⟨fun i => if hi : i < m then Classical.choose (h i hi) else d, fun i hi => by simp only [dif_pos hi]; exact Classical.choose_spec (h i hi)⟩
/-- types whose cells hold one cell each, by a look at the table -/
def okTy (P : Program) : Nat → TypeId → Bool
  | 0, _ => false
  | n + 1, t => match P.underlying t with
    | some (.int _) | some .string | some .bool | some (.slice _) => true
    | some (.struct fs) => (fs.toList.all fun f => okTy P n f.type) && (List.range (P.cellsOf t)).all fun c => fs.toList.any fun f => decide (f.offset ≤ c) && decide (c < f.offset + P.cellsOf f.type)
    | _ => false
section
variable {H : Type} {enc : TypeId × Value → H} {w : World} {held : Bool}
theorem okTy_one {P : Program} {base : Nat} {spare : Nat → Bool} : ∀ (n : Nat) (t : TypeId), okTy P n t = true → ∀ (fuel : Nat) (cs : List Value) (x : DataW H × List MemPlace), DataW.trod enc P w base spare held fuel t cs = some x → ∀ u ∈ cs, u.oneCell' = true
  | 0, t, h => by simp [okTy] at h
  | n + 1, t, h => by
    intro fuel cs x hx u hu
    unfold okTy at h
    split at h
    · rename_i k ht
      obtain ⟨m, rfl, _⟩ := DataW.trod_int ht hx
      simp at hu
      subst hu
      rfl
    · rename_i ht
      obtain ⟨m, rfl, _⟩ := DataW.trod_string ht hx
      simp at hu
      subst hu
      rfl
    · rename_i ht
      obtain ⟨m, rfl, _⟩ := DataW.trod_bool ht hx
      simp at hu
      subst hu
      rfl
    · rename_i e ht
      rcases DataW.trod_slice ht hx with ⟨rfl, _⟩ | ⟨_, _, _, _, _, _, _, rfl, _⟩
      · simp at hu
        subst hu
        rfl
      · simp at hu
        subst hu
        rfl
    · rename_i fs ht
      obtain ⟨xs, m, _, _, hl, hxl, hf⟩ := DataW.trod_struct ht hx
      rw [Bool.and_eq_true] at h
      obtain ⟨h1, h2⟩ := h
      obtain ⟨c, hc, rfl⟩ := List.getElem_of_mem hu
      have h3 := (List.all_eq_true.1 h2) c (by rw [List.mem_range]; omega)
      obtain ⟨f, hfm, h4⟩ := List.any_eq_true.1 h3
      rw [Bool.and_eq_true] at h4
      have h5 : f.offset ≤ c := of_decide_eq_true h4.1
      have h6 : c < f.offset + P.cellsOf f.type := of_decide_eq_true h4.2
      obtain ⟨i, hi, rfl⟩ := List.getElem_of_mem hfm
      have hi' : i < fs.size := by simpa using hi
      have h7 := hf i fs.toList[i] (by simp [hi'])
      rw [List.getElem?_eq_getElem (by omega)] at h7
      refine okTy_one n _ ((List.all_eq_true.1 h1) _ (List.getElem_mem hi)) m _ _ h7 _ ?_
      rw [List.mem_iff_getElem?]
      refine ⟨c - fs.toList[i].offset, ?_⟩
      rw [List.getElem?_take, if_pos (by omega), List.getElem?_drop, show fs.toList[i].offset + (c - fs.toList[i].offset) = c by omega, List.getElem?_eq_getElem hc]
    · simp at h
theorem read_ints {fuel : Nat} {cs : List Value} {x : DataW H × List MemPlace} (h : DataW.trod enc Try.prog w 0 (fun _ => true) held fuel 29 cs = some x) :
    ∃ (a : Option Addr) (cap : Nat) (l : List Int), cs = [.slice a l.length cap] ∧ Ints w a l ∧ l.length < 9223372036854775808 := by
  rcases open_ints Try.underlying29 Try.underlying3 (by kernel_rfl) h with ⟨rfl, _⟩ | ⟨a, len, cap, zs, rfl, _, hl, hm, hz, _, hc, _⟩
  · exact ⟨none, 0, [], rfl, Ints.nil _ _, by simp⟩
  · simp at hz
    unfold maxLen at hm
    refine ⟨some a, cap, zs.take len, by simp; omega, fun j hj => ?_, by simp; omega⟩
    simp at hj
    obtain ⟨b, off, rfl, hc'⟩ := cells_at (n := zs.length) (by omega) hc
    refine ⟨b, off, rfl, ?_⟩
    rw [hc' j (by omega)]
    have h1 : j < len := by omega
    simp [ig, List.getD, h1]
def madeD : Rec := ⟨0, 0, ⟨#[]⟩, ⟨#[]⟩, [], none, 0, List.replicate 36 (.bool false), rfl, fun u hu => by rw [List.eq_of_mem_replicate hu]; rfl⟩
theorem ok54 : okTy Try.prog 10 54 = true := by kernel_rfl
theorem read_rec {fuel : Nat} {cs : List Value} {x : DataW H × List MemPlace} (h : DataW.trod enc Try.prog w 0 (fun _ => true) held fuel 54 cs = some x) :
    ∃ r : Rec, r.cs = cs ∧ RecF r ∧ Ints w r.ma r.members := by
  have hone := okTy_one 10 54 ok54 fuel cs x h
  obtain ⟨xs, m, _, _, hl, hxl, hf⟩ := DataW.trod_struct Try.underlying54 h
  rw [show Try.prog.cellsOf 54 = 36 by kernel_rfl] at hl
  have hx : ∀ i, i < 15 → ∃ y, xs[i]? = some y := fun i hi => ⟨_, List.getElem?_eq_getElem (by rw [hxl]; exact hi)⟩
  have one : ∀ j, j < 36 → (cs.drop j).take 1 = [cs.getD j undef] := fun j hj => by
    rw [List.drop_eq_getElem_cons (by omega)]
    show [cs[j]'(by omega)] = [cs.getD j undef]
    rw [List.getD_eq_getElem?_getD, List.getElem?_eq_getElem (by omega)]
    rfl
  have get : ∀ j, j < 36 → cs[j]? = some (cs.getD j undef) := fun j hj => by
    rw [List.getD_eq_getElem?_getD, List.getElem?_eq_getElem (by omega)]
    rfl
  have c1 : Try.prog.cellsOf 3 = 1 := by kernel_rfl
  have c2 : Try.prog.cellsOf 9 = 1 := by kernel_rfl
  have c3 : Try.prog.cellsOf 29 = 1 := by kernel_rfl
  obtain ⟨y0, e0⟩ := hx 0 (by omega)
  obtain ⟨y1, e1⟩ := hx 1 (by omega)
  obtain ⟨y5, e5⟩ := hx 5 (by omega)
  obtain ⟨y6, e6⟩ := hx 6 (by omega)
  obtain ⟨y8, e8⟩ := hx 8 (by omega)
  have h0 : DataW.trod enc Try.prog w 0 (fun _ => true) held m 3 ((cs.drop 0).take (Try.prog.cellsOf 3)) = xs[0]? := hf 0 _ rfl
  rw [c1, one 0 (by decide), e0] at h0
  have h1 : DataW.trod enc Try.prog w 0 (fun _ => true) held m 3 ((cs.drop 1).take (Try.prog.cellsOf 3)) = xs[1]? := hf 1 _ rfl
  rw [c1, one 1 (by decide), e1] at h1
  have h5 : DataW.trod enc Try.prog w 0 (fun _ => true) held m 9 ((cs.drop 5).take (Try.prog.cellsOf 9)) = xs[5]? := hf 5 _ rfl
  rw [c2, one 5 (by decide), e5] at h5
  have h6 : DataW.trod enc Try.prog w 0 (fun _ => true) held m 9 ((cs.drop 6).take (Try.prog.cellsOf 9)) = xs[6]? := hf 6 _ rfl
  rw [c2, one 6 (by decide), e6] at h6
  have h8 : DataW.trod enc Try.prog w 0 (fun _ => true) held m 29 ((cs.drop 8).take (Try.prog.cellsOf 29)) = xs[8]? := hf 8 _ rfl
  rw [c3, one 8 (by decide), e8] at h8
  obtain ⟨k, hk, _⟩ := DataW.trod_int Try.underlying3 h0
  obtain ⟨au, hau, _⟩ := DataW.trod_int Try.underlying3 h1
  obtain ⟨tg, htg, _⟩ := DataW.trod_string Try.underlying9 h5
  obtain ⟨nm, hnm, _⟩ := DataW.trod_string Try.underlying9 h6
  obtain ⟨ma, mc, l, hm, hI, hml⟩ := read_ints h8
  simp only [List.cons.injEq, and_true] at hk hau htg hnm hm
  exact ⟨⟨k, au, tg, nm, l, ma, mc, cs, hl, hone⟩, rfl, ⟨by rw [get 0 (by omega), hk], by rw [get 1 (by omega), hau], by rw [get 5 (by omega), htg], by rw [get 6 (by omega), hnm], by rw [get 8 (by omega), hm], hml⟩, hI⟩
theorem open_recs {b0 : Nat} {r : Reach} {v : Value} {d : DataW H} {p : List MemPlace} (hv : Value.okWide Try.prog w r b0 23 v) (h : DataW.Trod enc Try.prog w 0 (fun _ => true) held 23 v d p) :
    ∃ (a : Option Addr) (cap : Nat) (l : List Rec), v = .slice a l.length cap ∧ ER.At w a l ∧ RecAll w l := by
  obtain ⟨a, len, cap, rfl⟩ := okWide_slice Try.underlying23 hv
  obtain ⟨fuel, hf⟩ := h
  rcases open_slice Try.underlying23 hf with ⟨hcs, _⟩ | ⟨a', len', cap', m, n, D, Pl, hcs, _, hl, hm, hmm, _, hi⟩
  · simp [Value.cells] at hcs
    obtain ⟨rfl, rfl, rfl⟩ := hcs
    exact ⟨none, 0, [], rfl, El.At.nil, fun r hr => (by cases hr)⟩
  · simp [Value.cells] at hcs
    obtain ⟨rfl, rfl, rfl⟩ := hcs
    simp at hmm
    subst hmm
    have hc36 : Try.prog.cellsOf 54 = 36 := by kernel_rfl
    have hx : ∀ i, i < m → ∃ t : Rec, (∀ j u, t.cs[j]? = some u → w.cell? (a'.add (i * 36 + j)) = some u) ∧ RecF t ∧ Ints w t.ma t.members := fun i him => by
      obtain ⟨cs', hc, ht⟩ := hi i him
      rw [hc36] at hc
      obtain ⟨r, e, h1, h2⟩ := read_rec ht
      obtain ⟨_, _, hat⟩ := World.cells?_some hc
      refine ⟨r, fun j u hu => ?_, h1, h2⟩
      have hj : j < 36 := by have := (List.getElem?_eq_some_iff.1 hu).1; rwa [r.hl] at this
      have := hat j hj
      rw [Go.Deep.add_add, ← e] at this
      rw [this, hu]
    obtain ⟨f, hf'⟩ := choose_fn (madeD) hx
    refine ⟨some a', m, (List.range len).map f, by simp, ?_, ?_⟩
    · intro o u ho
      have hlen : ((List.range len).map f).length = len := by simp
      have ho' : o < len * 36 := by have := (List.getElem?_eq_some_iff.1 ho).1; rw [ER.flen, hlen] at this; exact this
      obtain ⟨b, off, rfl, _⟩ := cells_at (w := w) (a := a') (n := 1) (f := fun _ => .int .i64 (f 0).kind) (by omega) (fun j hj => by
        obtain rfl : j = 0 := by omega
        have := (hf' 0 (by omega)).1 0 _ (hf' 0 (by omega)).2.1.f0
        simpa using this)
      refine ⟨b, off, rfl, ?_⟩
      have hq : o / 36 < ((List.range len).map f).length := by rw [hlen]; omega
      have e1 := ER.fat ((List.range len).map f) (o / 36) hq (o % 36) (by show o % 36 < 36; omega)
      rw [show ER.S = 36 from rfl, show o / 36 * 36 + o % 36 = o by omega, ho] at e1
      simp only [List.getElem_map, List.getElem_range] at e1
      have := (hf' (o / 36) (by rw [hlen] at hq; omega)).1 (o % 36) u e1.symm
      rw [show o / 36 * 36 + o % 36 = o by omega, Addr.add_mid] at this
      exact this
    · intro r hr
      obtain ⟨i, hi', rfl⟩ := List.mem_map.1 hr
      rw [List.mem_range] at hi'
      exact (hf' i (by omega)).2
theorem open_strs {b0 : Nat} {r : Reach} {v : Value} {d : DataW H} {p : List MemPlace} (hv : Value.okWide Try.prog w r b0 22 v) (h : DataW.Trod enc Try.prog w 0 (fun _ => true) held 22 v d p) :
    ∃ (a : Option Addr) (cap : Nat) (l : List ByteArray), v = .slice a l.length cap ∧ ES.At w a l := by
  obtain ⟨a, len, cap, rfl⟩ := okWide_slice Try.underlying22 hv
  obtain ⟨fuel, hf⟩ := h
  rcases open_slice Try.underlying22 hf with ⟨hcs, _⟩ | ⟨a', len', cap', m, n, D, Pl, hcs, _, hl, hm, hmm, _, hi⟩
  · simp [Value.cells] at hcs
    obtain ⟨rfl, rfl, rfl⟩ := hcs
    exact ⟨none, 0, [], rfl, El.At.nil⟩
  · simp [Value.cells] at hcs
    obtain ⟨rfl, rfl, rfl⟩ := hcs
    simp at hmm
    subst hmm
    have hx : ∀ i, i < m → ∃ t : ByteArray, w.cell? (a'.add i) = some (.string t) := fun i him => by
      obtain ⟨cs', hc, ht⟩ := hi i him
      rw [show Try.prog.cellsOf 9 = 1 by kernel_rfl, Nat.mul_one] at hc
      obtain ⟨s, rfl, _⟩ := DataW.trod_string Try.underlying9 ht
      obtain ⟨_, _, hat⟩ := World.cells?_some hc
      have := hat 0 (by omega)
      rw [Go.Deep.add_add, Nat.add_zero] at this
      exact ⟨s, by simpa using this⟩
    obtain ⟨f, hf'⟩ := choose_fn (ByteArray.empty) hx
    refine ⟨some a', m, (List.range len).map f, by simp, ?_⟩
    intro o u ho
    have hlen : ((List.range len).map f).length = len := by simp
    have ho' : o < len * 1 := by have := (List.getElem?_eq_some_iff.1 ho).1; rw [ES.flen, hlen] at this; exact this
    obtain ⟨b, off, rfl, hcs⟩ := cells_at (w := w) (a := a') (n := m) (f := fun j => .string (f j)) (by omega) hf'
    refine ⟨b, off, rfl, ?_⟩
    have e1 := ES.fat ((List.range len).map f) o (by rw [hlen]; omega) 0 (by decide)
    rw [show ES.S = 1 from rfl, Nat.mul_one, Nat.add_zero, ho] at e1
    simp only [List.getElem_map, List.getElem_range] at e1
    rw [hcs o (by omega)]
    exact e1.symm
end
end Go.Proofs.Ytgoomcnaemfjcaa
