


/- Package game: the region of follow that adds a position. -/
import Derived.Test.YtgccankekflchaaGamK
namespace Go.Proofs.Ytgccankekflchaa
open Go.RowKit Go.Maps Go.Shelf

def slA : Value → Option Addr
  | .slice a _ _ => a
  | _ => none
def slC : Value → Nat
  | .slice _ _ c => c
  | _ => 0
/-- the element that is added -/
def eP (g : Gm) (x : St) (b6 b10 : Value) : PA := (posS g x, (slA b6, slC b6, slA b10, slC b10))
theorem box_starts {w : World} {B : Nat} {x : St} (h : BoxAt w B (stC x)) (hl : x.starts.length ≤ 6) : EI.At w (some ⟨B, 1, none⟩) x.starts := Ints.el fun j hj => ⟨B, 1, rfl, (h (1 + j) _ (st_start (by omega))).1⟩
theorem box_failed {w : World} {B : Nat} {x : St} (h : BoxAt w B (stC x)) (hl : x.failed.length ≤ 6) : EB.At w (some ⟨B, 7, none⟩) x.failed := Bools.el fun j hj => ⟨B, 7, rfl, (h (7 + j) _ (st_fail (by omega))).1⟩
structure FoJ (K : FlK) (w5 : World) (v : Value) (l : List PA) (x : St) (b6 b10 b18 b19 : Value) (l6 l10 l18 l19 l20 : Bool) (w : World) : Prop where
  c : Chg (fun k => v.ownBlock = some k ∨ k = K.Ob) w5 w
  k6 : l6 = true → ∃ a k, b6 = .slice a x.starts.length k ∧ EI.Own w w5.heap.size b6 x.starts
  k10 : l10 = true → ∃ a k, b10 = .slice a x.failed.length k ∧ EB.Own w w5.heap.size b10 x.failed
  k18 : l18 = true → ∃ nb, b18 = .slice (some ⟨nb, 0, none⟩) 1 1 ∧ w5.heap.size ≤ nb ∧ BoxAt w nb (psCs (eP K.g x b6 b10))
  own : EQ.Own w K.w0.heap.size (if l19 then b19 else v) (if l19 then l ++ [eP K.g x b6 b10] else l)
  nb : l19 = true → ∀ b, b19.ownBlock = some b → v.ownBlock = some b ∨ w5.heap.size ≤ b
  ob : BoxAt w K.Ob [if l20 then b19 else v]
  t : IsTy w K.Ob 28
section
variable {K : FlK} {w5 w w' : World} {v : Value} {l : List PA} {x : St} {b6 b10 b18 b19 : Value} {l6 l10 l18 l19 l20 : Bool}
theorem FoJ.start {D : List St} (h : FlI K w5 v l D) : FoJ K w5 v l x b6 b10 b18 b19 false false false false false w5.drew :=
  ⟨(Chg.refl _ _).drew, fun e => (by cases e), fun e => (by cases e), fun e => (by cases e), h.own, fun e => (by cases e), h.o, h.tO⟩
theorem FoJ.later (h : FoJ K w5 v l x b6 b10 b18 b19 l6 l10 l18 l19 l20 w) (hb : Below w.heap.size w w') : FoJ K w5 v l x b6 b10 b18 b19 l6 l10 l18 l19 l20 w' := by
  refine ⟨h.c.trans (Chg.of_below hb), fun e => ?_, fun e => ?_, fun e => ?_, h.own.later hb, h.nb, h.ob.later hb, h.t.block (hb.block _ h.t.lt)⟩
  · obtain ⟨a, k, e1, e2⟩ := h.k6 e
    exact ⟨a, k, e1, e2.later hb⟩
  · obtain ⟨a, k, e1, e2⟩ := h.k10 e
    exact ⟨a, k, e1, e2.later hb⟩
  · obtain ⟨nb, e1, e2, e3⟩ := h.k18 e
    exact ⟨nb, e1, e2, e3.later hb⟩
theorem FoJ.clone6 {b : Value} {a : Option Addr} {k : Nat} (h : FoJ K w5 v l x b6 b10 b18 b19 false l10 false false l20 w) (hb : Below w.heap.size w w') (e : b = .slice a x.starts.length k) (ho : EI.Own w' w.heap.size b x.starts) : FoJ K w5 v l x b b10 b18 b19 true l10 false false l20 w' := by
  have h' := h.later hb
  exact ⟨h'.c, fun _ => ⟨a, k, e, ho.mono h.c.size⟩, h'.k10, fun e => (by cases e), h'.own, fun e => (by cases e), h'.ob, h'.t⟩
theorem FoJ.clone10 {b : Value} {a : Option Addr} {k : Nat} (h : FoJ K w5 v l x b6 b10 b18 b19 l6 false false false l20 w) (hb : Below w.heap.size w w') (e : b = .slice a x.failed.length k) (ho : EB.Own w' w.heap.size b x.failed) : FoJ K w5 v l x b6 b b18 b19 l6 true false false l20 w' := by
  have h' := h.later hb
  exact ⟨h'.c, h'.k6, fun _ => ⟨a, k, e, ho.mono h.c.size⟩, fun e => (by cases e), h'.own, fun e => (by cases e), h'.ob, h'.t⟩
theorem FoJ.made (h : FoJ K w5 v l x b6 b10 b18 b19 l6 l10 false false l20 w) : FoJ K w5 v l x b6 b10 (.slice (some ⟨w.heap.size, 0, none⟩) 1 1) b19 l6 l10 true false l20 (w.alloc (.cells (psCs (eP K.g x b6 b10)).toArray 57)) := by
  have hb : Below w.heap.size w (w.alloc (.cells (psCs (eP K.g x b6 b10)).toArray 57)) := (Below.refl _ _).alloc (Nat.le_refl _) _
  have h' := h.later hb
  exact ⟨h'.c, h'.k6, h'.k10, fun _ => ⟨_, rfl, h.c.size, BoxAt.new _ _ _⟩, h'.own, fun e => (by cases e), h'.ob, h'.t⟩
theorem FoJ.app {v' : Value} {D : List St} (hI : FlI K w5 v l D) (h : FoJ K w5 v l x b6 b10 b18 b19 true true true false false w) (ho : EQ.Own w' K.w0.heap.size v' (l ++ [eP K.g x b6 b10])) (hg : w.grownBy w' v.ownBlock) (hn : ∀ b, v'.ownBlock = some b → v.ownBlock = some b ∨ w.heap.size ≤ b) :
    FoJ K w5 v l x b6 b10 b18 v' true true true true false w' := by
  have hlt : ∀ b, v.ownBlock = some b → b < w5.heap.size := fun b hb => (hI.own.lt b hb).2
  have hOb : v.ownBlock ≠ some K.Ob := fun e => (hI.own.ty e).ne hI.tO (by decide) rfl
  have hT : K.Ob < w.heap.size := h.t.lt
  have hTb : w'.heap[K.Ob]? = w.heap[K.Ob]? := hg.block _ hT (fun e => hOb e.symm)
  refine ⟨h.c.grown hg fun k hk _ => .inl hk, fun e => ?_, fun e => ?_, fun e => ?_, ho, fun _ b hb => ?_, h.ob.block hTb, h.t.block hTb⟩
  · obtain ⟨a, k, e1, e2⟩ := h.k6 e
    exact ⟨a, k, e1, e2.block fun g hg' => hg.block g (e2.lt g hg').2 fun e3 => by have := (e2.lt g hg').1; have := hlt g e3.symm; omega⟩
  · obtain ⟨a, k, e1, e2⟩ := h.k10 e
    exact ⟨a, k, e1, e2.block fun g hg' => hg.block g (e2.lt g hg').2 fun e3 => by have := (e2.lt g hg').1; have := hlt g e3.symm; omega⟩
  · obtain ⟨nb, e1, e2, e3⟩ := h.k18 e
    exact ⟨nb, e1, e2, e3.grown' hg fun e4 => by have := hlt nb e4; omega⟩
  · rcases hn b hb with h1 | h1
    · exact .inl h1
    · exact .inr (Nat.le_trans h.c.size h1)
theorem FoJ.store {D : List St} (hI : FlI K w5 v l D) (h : FoJ K w5 v l x b6 b10 b18 b19 true true true true false w) : FoJ K w5 v l x b6 b10 b18 b19 true true true true true (w.setCell ⟨K.Ob, 0, none⟩ b19) := by
  have hTl : K.Ob < w5.heap.size := hI.tO.lt
  have hOb : v.ownBlock ≠ some K.Ob := fun e => (hI.own.ty e).ne hI.tO (by decide) rfl
  have hbq : b19.ownBlock ≠ some K.Ob := fun e => by
    rcases h.nb rfl _ e with h1 | h1
    · exact hOb h1
    · omega
  have ho : ∀ n, n ≠ K.Ob → (w.setCell ⟨K.Ob, 0, none⟩ b19).heap[n]? = w.heap[n]? := fun n hn => heap_setCell_other w ⟨K.Ob, 0, none⟩ n b19 hn
  refine ⟨h.c.setCell (p := ⟨K.Ob, 0, none⟩) (fun _ => .inr rfl) _, fun e => ?_, fun e => ?_, fun e => ?_, h.own.block fun g hg => ho g fun e => hbq (by rw [← e]; exact hg), h.nb, h.ob.put 0 _ (by simp), h.t.setCell _ _ _⟩
  · obtain ⟨a, k, e1, e2⟩ := h.k6 e
    exact ⟨a, k, e1, e2.block fun g hg' => ho g fun e3 => by have := (e2.lt g hg').1; omega⟩
  · obtain ⟨a, k, e1, e2⟩ := h.k10 e
    exact ⟨a, k, e1, e2.block fun g hg' => ho g fun e3 => by have := (e2.lt g hg').1; omega⟩
  · obtain ⟨nb, e1, e2, e3⟩ := h.k18 e
    exact ⟨nb, e1, e2, e3.block (ho nb (by omega))⟩
/-- behind the region -/
theorem FoJ.done {D : List St} (hI : FlI K w5 v l D) (h : FoJ K w5 v l x b6 b10 b18 b19 true true true true true w) (hlo : K.w0.heap.size ≤ K.Ob) : FlI K w b19 (l ++ [eP K.g x b6 b10]) D := by
  have hbl : Below K.w0.heap.size K.w0 w := hI.bl.trans (h.c.below hI.bl.size (by
    rintro k (hk | rfl)
    · exact (hI.own.lt k hk).1
    · exact hlo))
  have keep : ∀ b, b < w5.heap.size → b ≠ K.Ob → v.ownBlock ≠ some b → w.heap[b]? = w5.heap[b]? := fun b hb h1 h2 => h.c.block b hb fun h3 => h3.elim h2 h1
  have keepT : ∀ {b : Nat} {U : TypeId}, IsTy w5 b U → U ≠ 57 → b ≠ K.Ob → w.heap[b]? = w5.heap[b]? := fun ht hU h1 => keep _ ht.lt h1 fun e => (hI.own.ty e).ne ht (Ne.symm hU) rfl
  obtain ⟨n, h3⟩ := hI.s
  have kG := keepT hI.tg (by decide) fun e => hI.tg.ne hI.tO (by decide) e
  have kB := keepT hI.tb (by decide) fun e => hI.tb.ne hI.tO (by decide) e
  have kS := keepT hI.ts (by decide) fun e => hI.ts.ne hI.tO (by decide) e
  have kF := keepT hI.tf (by decide) fun e => hI.tf.ne hI.tO (by decide) e
  have kM := keep K.M hI.m.lt (fun e => memo_noTy hI.m hI.tO e.symm) fun e => memo_noTy hI.m (hI.own.ty e) rfl
  have kSS := keep K.S h3.lt (fun e => map_noTy h3 hI.tO e.symm) fun e => map_noTy h3 (hI.own.ty e) rfl
  obtain ⟨a6, c6, e6, o6⟩ := h.k6 rfl
  obtain ⟨a10, c10, e10, o10⟩ := h.k10 rfl
  refine ⟨hbl, hI.m.same kM, ⟨n, h3.block kSS⟩, hI.g.block kG, hI.b.block kB, hI.sb.block kS, h.ob, hI.f.block kF, hI.tg.block kG, hI.tb.block kB, hI.ts.block kS, h.t, hI.tf.block kF, h.own, ?_, ?_, hI.dom⟩
  · intro e he
    rcases List.mem_append.1 he with he | he
    · refine (hI.aux e he).same fun b hb => ?_
      rcases (hI.aux e he).ty hb with ht | ht
      · exact keepT ht (by decide) fun e => ht.ne hI.tO (by decide) e
      · exact keepT ht (by decide) fun e => ht.ne hI.tO (by decide) e
    · rw [List.mem_singleton] at he
      subst he
      refine ⟨?_, ?_⟩
      · subst e6
        exact o6.mono hI.bl.size
      · subst e10
        exact o10.mono hI.bl.size
  · intro e he
    rcases List.mem_append.1 he with he | he
    · exact hI.pos e he
    · rw [List.mem_singleton] at he
      subst he
      rfl
end
end Go.Proofs.Ytgccankekflchaa

