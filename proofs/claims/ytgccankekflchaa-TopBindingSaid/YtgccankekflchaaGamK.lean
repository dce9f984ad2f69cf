


/- Package game: what follow keeps (plain, and in memory). -/
import Derived.Test.YtgccankekflchaaGamJ
namespace Go.Proofs.Ytgccankekflchaa
open Go.RowKit Go.Maps Go.Shelf

/-! ### plain -/
/-- the positions to which the best plan may lead, in the order in which they are found -/
def followL (g : Gm) : Nat → St → List St → List St
  | 0, _, D => D
  | k + 1, s, D => (madeL s).foldl (fun D x => if x ∈ D then D else followL g k (afterS x (BG g x).1) (D ++ [x])) D
def folStep (g : Gm) (k : Nat) (D : List St) (x : St) : List St := if x ∈ D then D else followL g k (afterS x (BG g x).1) (D ++ [x])
theorem followL_succ (g : Gm) (k : Nat) (s : St) (D : List St) : followL g (k + 1) s D = (madeL s).foldl (folStep g k) D := rfl
def posS (g : Gm) (x : St) : Pos := ⟨x.turn, x.starts, x.failed, x.budget, (BG g x).1, (BG g x).2⟩
theorem posS_st (g : Gm) (x : St) : (posS g x).st = x := rfl
theorem bvF_can {g : Gm} {w : St → Int} {x : St} : can g x (bvF g w x).1 := by
  unfold bvF
  suffices hh : ∀ (l : List Int) (o : Int × Int), (∀ v ∈ l, v ∈ dg g x.turn.toNat) → can g x o.1 → can g x (l.foldl (considerF w x) o).1 from hh _ _ (fun _ h => h) (.inl rfl)
  intro l
  induction l with
  | nil => intro o _ h; exact h
  | cons v l ih =>
    intro o hl h
    refine ih _ (fun y hy => hl y (by simp [hy])) ?_
    unfold considerF
    split
    · rename_i hc
      split
      · exact .inr ⟨hl v (by simp), hc.1, hc.2⟩
      · exact h
    · exact h
theorem BG_can (g : Gm) (x : St) : can g x (BG g x).1 := bvF_can
def NF : Nat → Nat
  | 0 => 0
  | k + 1 => 7 * (1 + NF k)
theorem NF_le {k : Nat} (h : k ≤ 12) : NF k ≤ 20000000000 := by
  have : k = 0 ∨ k = 1 ∨ k = 2 ∨ k = 3 ∨ k = 4 ∨ k = 5 ∨ k = 6 ∨ k = 7 ∨ k = 8 ∨ k = 9 ∨ k = 10 ∨ k = 11 ∨ k = 12 := by omega
  rcases this with rfl | rfl | rfl | rfl | rfl | rfl | rfl | rfl | rfl | rfl | rfl | rfl | rfl <;> decide
theorem madeL_len {g : Gm} (hv : VG g) {s : St} (hs : Dom g s) : (madeL s).length ≤ 7 := by
  have h1 := hv.1
  have h2 := hs.lf
  unfold madeL hits
  rw [List.length_cons, List.length_map]
  split
  · have := List.length_filter_le (fun v => !bg s.failed v) (List.range s.failed.length)
    rw [List.length_range] at this
    omega
  · simp
theorem Dom.next {g : Gm} {x : St} (hx : Dom g x) (ht : x.turn < g.deps.length) : Dom g (afterS x (BG g x).1) := hx.after ht ((BG_can g x).imp id fun h => h.2.2)
theorem followL_len {g : Gm} (hv : VG g) : ∀ (k : Nat) (s : St) (D : List St), Dom g s → s.turn + k ≤ g.deps.length → (followL g k s D).length ≤ D.length + NF k
  | 0, _, _, _, _ => Nat.le_refl _
  | k + 1, s, D, hs, ht => by
    rw [followL_succ]
    have key : ∀ (l : List St) (D : List St), (∀ x ∈ l, x ∈ madeL s) → (l.foldl (folStep g k) D).length ≤ D.length + l.length * (1 + NF k) := by
      intro l
      induction l with
      | nil => intro D _; simp
      | cons x l ih =>
        intro D hl
        rw [List.foldl_cons]
        have h1 := ih (folStep g k D x) (fun y hy => hl y (by simp [hy]))
        have h2 : (folStep g k D x).length ≤ D.length + (1 + NF k) := by
          unfold folStep
          split
          · omega
          · have hx := hs.made (hl x (by simp))
            have e := made_turn (hl x (by simp))
            have := followL_len hv k (afterS x (BG g x).1) (D ++ [x]) (hx.next (by omega)) (by show x.turn + 1 + k ≤ _; omega)
            rw [List.length_append, List.length_singleton] at this
            omega
        rw [List.length_cons, Nat.succ_mul]
        omega
    have h1 := key (madeL s) D (fun _ h => h)
    have h2 := madeL_len hv hs
    have h3 := Nat.mul_le_mul_right (1 + NF k) h2
    unfold NF
    omega
theorem fold_len {g : Gm} (hv : VG g) {k : Nat} {s : St} (hs : Dom g s) (ht : s.turn + (k + 1) ≤ g.deps.length) : ∀ (l : List St) (D : List St), (∀ x ∈ l, x ∈ madeL s) → (l.foldl (folStep g k) D).length ≤ D.length + l.length * (1 + NF k) := by
  intro l
  induction l with
  | nil => intro D _; simp
  | cons x l ih =>
    intro D hl
    rw [List.foldl_cons]
    have h1 := ih (folStep g k D x) (fun y hy => hl y (by simp [hy]))
    have h2 : (folStep g k D x).length ≤ D.length + (1 + NF k) := by
      unfold folStep
      split
      · omega
      · have hx := hs.made (hl x (by simp))
        have e := made_turn (hl x (by simp))
        have := followL_len hv k (afterS x (BG g x).1) (D ++ [x]) (hx.next (by omega)) (by show x.turn + 1 + k ≤ _; omega)
        rw [List.length_append, List.length_singleton] at this
        omega
    rw [List.length_cons, Nat.succ_mul]
    omega
noncomputable def seenF (D : List St) : Value → Option Value := open Classical in fun v => if ∃ s ∈ D, stV s = v then some (.bool true) else none
theorem seenF_nil (v : Value) : seenF [] v = none := by unfold seenF; rw [if_neg (by simp)]
theorem seenF_in {D : List St} {x : St} (h : x ∈ D) : seenF D (stV x) = some (.bool true) := by unfold seenF; rw [if_pos ⟨x, h, rfl⟩]
theorem seenF_out {m : Nat} {D : List St} {x : St} (hx : Fit m x) (hD : ∀ s ∈ D, Fit m s) (h : x ∉ D) : seenF D (stV x) = none := by
  unfold seenF
  rw [if_neg]
  rintro ⟨s, hs, e⟩
  exact h (stV_inj (hD s hs) hx e ▸ hs)
theorem seenF_put (D : List St) (x : St) (v : Value) : putF (seenF D) (stV x) (.bool true) v = seenF (D ++ [x]) v := by
  by_cases e : v = stV x
  · subst e
    rw [putF_at, seenF_in (by simp)]
  · rw [putF_ne _ _ e]
    unfold seenF
    have : (∃ s ∈ D, stV s = v) ↔ ∃ s ∈ D ++ [x], stV s = v := by
      constructor
      · rintro ⟨s, hs, h⟩
        exact ⟨s, by simp [hs], h⟩
      · rintro ⟨s, hs, h⟩
        rcases List.mem_append.1 hs with hs | hs
        · exact ⟨s, hs, h⟩
        · simp at hs
          subst hs
          exact absurd h.symm e
    by_cases hh : ∃ s ∈ D, stV s = v
    · rw [if_pos hh, if_pos (this.1 hh)]
    · rw [if_neg hh, if_neg (fun h => hh (this.2 h))]
/-! ### in memory -/
structure AuxP (w : World) (B : Nat) (e : PA) : Prop where
  s : EI.Own w B (.slice e.2.1 e.1.starts.length e.2.2.1) e.1.starts
  f : EB.Own w B (.slice e.2.2.2.1 e.1.failed.length e.2.2.2.2) e.1.failed
def AuxB (e : PA) (b : Nat) : Prop := (Value.slice e.2.1 e.1.starts.length e.2.2.1).ownBlock = some b ∨ (Value.slice e.2.2.2.1 e.1.failed.length e.2.2.2.2).ownBlock = some b
theorem AuxP.same {w w' : World} {B : Nat} {e : PA} (h : AuxP w B e) (hb : ∀ b, AuxB e b → w'.heap[b]? = w.heap[b]?) : AuxP w' B e := ⟨h.s.block fun g hg => hb g (.inl hg), h.f.block fun g hg => hb g (.inr hg)⟩
theorem AuxP.lt {w : World} {B : Nat} {e : PA} (h : AuxP w B e) {b : Nat} (hb : AuxB e b) : B ≤ b ∧ b < w.heap.size := by
  rcases hb with hb | hb
  · exact h.s.lt b hb
  · exact h.f.lt b hb
theorem AuxP.ty {w : World} {B : Nat} {e : PA} (h : AuxP w B e) {b : Nat} (hb : AuxB e b) : IsTy w b 3 ∨ IsTy w b 4 := by
  rcases hb with hb | hb
  · exact .inl (h.s.ty hb)
  · exact .inr (h.f.ty hb)
theorem AuxP.ps {w : World} {B : Nat} {e : PA} (h : AuxP w B e) : PsAt w e.1 e.2.1 e.2.2.2.1 := by
  obtain ⟨a, c, e1, _, _, h1, _⟩ := h.s.at
  obtain ⟨a', c', e2, _, _, h2, _⟩ := h.f.at
  cases e1
  cases e2
  exact ⟨h1.ints, h2.bools⟩
/-- what does not change while Plan follows -/
structure FlK where
  g : Gm
  sa : Option Addr
  sc : Nat
  da : Option Addr
  dc : Nat
  M : Nat
  S : Nat
  G : Nat
  Bb : Nat
  Sb : Nat
  Ob : Nat
  Fb : Nat
  w0 : World
abbrev flV (K : FlK) : Value := .func (.func 16) #[] #[.pointer (some ⟨K.G, 0, none⟩), .pointer (some ⟨K.Bb, 0, none⟩), .pointer (some ⟨K.Sb, 0, none⟩), .pointer (some ⟨K.Ob, 0, none⟩), .pointer (some ⟨K.Fb, 0, none⟩)]
abbrev gmC (g : Gm) (sa : Option Addr) (sc : Nat) (da : Option Addr) (dc : Nat) : List Value := [.slice sa g.starts.length sc, .slice da g.deps.length dc, .int .i64 g.budget]
structure FlD (K : FlK) : Prop where
  vg : VG K.g
  gm : GmAt K.w0 K.g K.sa K.da
  lo : K.w0.heap.size ≤ K.M ∧ K.w0.heap.size ≤ K.S ∧ K.w0.heap.size ≤ K.Ob
  ms : K.M ≠ K.S
structure FlI (K : FlK) (w : World) (v : Value) (l : List PA) (D : List St) : Prop where
  bl : Below K.w0.heap.size K.w0 w
  m : Memo K.g w K.M
  s : ∃ n, MapIs Try.prog 47 w K.S n (seenF D)
  g : BoxAt w K.G (gmC K.g K.sa K.sc K.da K.dc)
  b : BoxAt w K.Bb (bdC K.g K.sa K.sc K.da K.dc K.M)
  sb : BoxAt w K.Sb [.map (some K.S)]
  o : BoxAt w K.Ob [v]
  f : BoxAt w K.Fb [flV K]
  tg : IsTy w K.G 25
  tb : IsTy w K.Bb 43
  ts : IsTy w K.Sb 50
  tO : IsTy w K.Ob 28
  tf : IsTy w K.Fb 51
  own : EQ.Own w K.w0.heap.size v l
  aux : ∀ e ∈ l, AuxP w K.w0.heap.size e
  pos : ∀ e ∈ l, e.1 = posS K.g e.1.st
  dom : ∀ x ∈ D, Dom K.g x ∧ x.turn < K.g.deps.length
def Blk (K : FlK) (v : Value) (l : List PA) (b : Nat) : Prop := b = K.M ∨ b = K.S ∨ b = K.G ∨ b = K.Bb ∨ b = K.Sb ∨ b = K.Ob ∨ b = K.Fb ∨ v.ownBlock = some b ∨ ∃ e ∈ l, AuxB e b
theorem FlI.lt {K : FlK} {w : World} {v : Value} {l : List PA} {D : List St} (h : FlI K w v l D) {b : Nat} (hb : Blk K v l b) : b < w.heap.size := by
  rcases hb with rfl | rfl | rfl | rfl | rfl | rfl | rfl | hb | ⟨e, he, hb⟩
  · exact h.m.lt
  · obtain ⟨n, hs⟩ := h.s
    exact hs.lt
  · exact h.tg.lt
  · exact h.tb.lt
  · exact h.ts.lt
  · exact h.tO.lt
  · exact h.tf.lt
  · exact (h.own.lt b hb).2
  · exact ((h.aux e he).lt hb).2
theorem FlI.same {K : FlK} {w w' : World} {v : Value} {l : List PA} {D : List St} (h : FlI K w v l D) (hb : Below K.w0.heap.size K.w0 w') (hs : ∀ b, Blk K v l b → w'.heap[b]? = w.heap[b]?) : FlI K w' v l D := by
  obtain ⟨n, h3⟩ := h.s
  exact ⟨hb, h.m.same (hs _ (.inl rfl)), ⟨n, h3.block (hs _ (.inr (.inl rfl)))⟩, h.g.block (hs _ (.inr (.inr (.inl rfl)))), h.b.block (hs _ (.inr (.inr (.inr (.inl rfl))))), h.sb.block (hs _ (.inr (.inr (.inr (.inr (.inl rfl)))))),
    h.o.block (hs _ (.inr (.inr (.inr (.inr (.inr (.inl rfl))))))), h.f.block (hs _ (.inr (.inr (.inr (.inr (.inr (.inr (.inl rfl)))))))),
    h.tg.block (hs _ (.inr (.inr (.inl rfl)))), h.tb.block (hs _ (.inr (.inr (.inr (.inl rfl))))), h.ts.block (hs _ (.inr (.inr (.inr (.inr (.inl rfl)))))),
    h.tO.block (hs _ (.inr (.inr (.inr (.inr (.inr (.inl rfl))))))), h.tf.block (hs _ (.inr (.inr (.inr (.inr (.inr (.inr (.inl rfl)))))))),
    h.own.block fun b hb => hs b (.inr (.inr (.inr (.inr (.inr (.inr (.inr (.inl hb)))))))),
    fun e he => (h.aux e he).same fun b hb => hs b (.inr (.inr (.inr (.inr (.inr (.inr (.inr (.inr ⟨e, he, hb⟩)))))))), h.pos, h.dom⟩
theorem FlI.chg {K : FlK} {w w' : World} {v : Value} {l : List PA} {D : List St} {T : Nat → Prop} (h : FlI K w v l D) (hc : Chg T w w') (hlo : ∀ k, T k → K.w0.heap.size ≤ k) (hT : ∀ b, Blk K v l b → ¬ T b) : FlI K w' v l D :=
  h.same (h.bl.trans (hc.below h.bl.size hlo)) fun b hb => hc.block b (h.lt hb) (hT b hb)
theorem FlI.later {K : FlK} {w w' : World} {v : Value} {l : List PA} {D : List St} (h : FlI K w v l D) (hb : Below w.heap.size w w') : FlI K w' v l D :=
  h.chg (T := fun _ => False) (Chg.of_below hb) (fun _ h => h.elim) fun _ _ h => h
theorem memo_noTy {g : Gm} {w : World} {M k : Nat} {U : TypeId} (h : Memo g w M) (ht : IsTy w k U) : k ≠ M := by
  rintro rfl
  obtain ⟨n, f, ⟨es, cl, hb, _⟩, _⟩ := h.h
  obtain ⟨cur, hc⟩ := ht
  rw [hb] at hc
  cases hc
theorem map_noTy {w : World} {M k n : Nat} {f : Value → Option Value} {t U : TypeId} (h : MapIs Try.prog t w M n f) (ht : IsTy w k U) : k ≠ M := by
  rintro rfl
  obtain ⟨es, cl, hb, _⟩ := h
  obtain ⟨cur, hc⟩ := ht
  rw [hb] at hc
  cases hc
/-- the types that tell the blocks apart -/
theorem FlI.blkTy {K : FlK} {w : World} {v : Value} {l : List PA} {D : List St} (h : FlI K w v l D) {b : Nat} (hb : Blk K v l b) (h1 : b ≠ K.M) (h2 : b ≠ K.S) : ∃ U, IsTy w b U := by
  rcases hb with rfl | rfl | rfl | rfl | rfl | rfl | rfl | hb | ⟨e, he, hb⟩
  · exact absurd rfl h1
  · exact absurd rfl h2
  · exact ⟨_, h.tg⟩
  · exact ⟨_, h.tb⟩
  · exact ⟨_, h.ts⟩
  · exact ⟨_, h.tO⟩
  · exact ⟨_, h.tf⟩
  · exact ⟨_, h.own.ty hb⟩
  · rcases (h.aux e he).ty hb with h | h <;> exact ⟨_, h⟩
/-- the memo has changed -/
theorem FlI.memo {K : FlK} (hK : FlD K) {w w' : World} {v : Value} {l : List PA} {D : List St} (h : FlI K w v l D) (hc : Chg (fun k => k = K.M) w w') (hm : Memo K.g w' K.M) : FlI K w' v l D := by
  have hbl := h.bl.trans (hc.below h.bl.size fun k e => by rw [e]; exact hK.lo.1)
  have keep : ∀ b, Blk K v l b → b ≠ K.M → w'.heap[b]? = w.heap[b]? := fun b hb hne => hc.block b (h.lt hb) hne
  have nt : ∀ {b : Nat} {U : TypeId}, IsTy w b U → b ≠ K.M := fun ht => memo_noTy h.m ht
  obtain ⟨n, h3⟩ := h.s
  have kG := keep _ (.inr (.inr (.inl rfl))) (nt h.tg)
  have kB := keep _ (.inr (.inr (.inr (.inl rfl)))) (nt h.tb)
  have kS := keep _ (.inr (.inr (.inr (.inr (.inl rfl))))) (nt h.ts)
  have kO := keep _ (.inr (.inr (.inr (.inr (.inr (.inl rfl)))))) (nt h.tO)
  have kF := keep _ (.inr (.inr (.inr (.inr (.inr (.inr (.inl rfl))))))) (nt h.tf)
  exact ⟨hbl, hm, ⟨n, h3.block (keep _ (.inr (.inl rfl)) hK.ms.symm)⟩, h.g.block kG, h.b.block kB, h.sb.block kS, h.o.block kO, h.f.block kF, h.tg.block kG, h.tb.block kB, h.ts.block kS, h.tO.block kO, h.tf.block kF,
    h.own.block fun b hb => keep b (.inr (.inr (.inr (.inr (.inr (.inr (.inr (.inl hb)))))))) (nt (h.own.ty hb)),
    fun e he => (h.aux e he).same fun b hb => keep b (.inr (.inr (.inr (.inr (.inr (.inr (.inr (.inr ⟨e, he, hb⟩)))))))) (by rcases (h.aux e he).ty hb with ht | ht <;> exact nt ht), h.pos, h.dom⟩
/-- the map of what was seen has changed -/
theorem FlI.seen {K : FlK} (hK : FlD K) {w w' : World} {v : Value} {l : List PA} {D D' : List St} {n : Nat} (h : FlI K w v l D) (hc : Chg (fun k => k = K.S) w w') (hm : MapIs Try.prog 47 w' K.S n (seenF D')) (hD : ∀ x ∈ D', Dom K.g x ∧ x.turn < K.g.deps.length) : FlI K w' v l D' := by
  have hbl := h.bl.trans (hc.below h.bl.size fun k e => by rw [e]; exact hK.lo.2.1)
  have keep : ∀ b, Blk K v l b → b ≠ K.S → w'.heap[b]? = w.heap[b]? := fun b hb hne => hc.block b (h.lt hb) hne
  obtain ⟨n0, h3⟩ := h.s
  have nt : ∀ {b : Nat} {U : TypeId}, IsTy w b U → b ≠ K.S := fun ht => map_noTy h3 ht
  have kG := keep _ (.inr (.inr (.inl rfl))) (nt h.tg)
  have kB := keep _ (.inr (.inr (.inr (.inl rfl)))) (nt h.tb)
  have kS := keep _ (.inr (.inr (.inr (.inr (.inl rfl))))) (nt h.ts)
  have kO := keep _ (.inr (.inr (.inr (.inr (.inr (.inl rfl)))))) (nt h.tO)
  have kF := keep _ (.inr (.inr (.inr (.inr (.inr (.inr (.inl rfl))))))) (nt h.tf)
  exact ⟨hbl, h.m.same (keep _ (.inl rfl) hK.ms), ⟨n, hm⟩, h.g.block kG, h.b.block kB, h.sb.block kS, h.o.block kO, h.f.block kF, h.tg.block kG, h.tb.block kB, h.ts.block kS, h.tO.block kO, h.tf.block kF,
    h.own.block fun b hb => keep b (.inr (.inr (.inr (.inr (.inr (.inr (.inr (.inl hb)))))))) (nt (h.own.ty hb)),
    fun e he => (h.aux e he).same fun b hb => keep b (.inr (.inr (.inr (.inr (.inr (.inr (.inr (.inr ⟨e, he, hb⟩)))))))) (by rcases (h.aux e he).ty hb with ht | ht <;> exact nt ht), h.pos, hD⟩
end Go.Proofs.Ytgccankekflchaa

