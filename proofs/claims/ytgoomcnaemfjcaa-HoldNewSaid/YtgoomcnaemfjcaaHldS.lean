


/- What HoldBacks and HoldNew share: an append of any size, 'append(append([]T{}, l...), x)' in a drawn region, what All gives back is kept, openers. -/
import Derived.Test.YtgoomcnaemfjcaaHldQ
import Derived.SizedLaws
namespace Go.Proofs.Ytgoomcnaemfjcaa
open Go.ChangeShapes Go.WideShapes Go.ChangeAt Go.RowKit Go.Joins Go.Deep

theorem El.appW {α : Type} {E : El α} (w : World) (B : Nat) (v : Value) (l m : List α) (hown : E.Own w B v l) (ad : Option Addr) (c : Nat) (hc : E.At w ad m) (hl : (l.length + m.length) * E.by' ≤ 140737488355328) (hpos : 0 < E.by') (hB : B ≤ w.heap.size) (ty : TypeId) :
    ∃ v' w', (Builtin.append_ #[E.TS, E.TS] ty #[v, .slice ad m.length c]).run Try.prog w = .ok v' w' ∧ E.Own w' B v' (l ++ m) ∧ w.grownBy w' v.ownBlock ∧ ∀ b, v'.ownBlock = some b → v.ownBlock = some b ∨ w.heap.size ≤ b := by
  obtain ⟨i0, hi, hz0, hz1, hz2⟩ := infoParts E.info
  cases ad with
  | none =>
    obtain rfl := hc.isNil
    refine ⟨v, w, ?_, by simpa using hown, World.grownBy.refl _ _, fun b hb => .inl hb⟩
    obtain ⟨h1, ⟨e, h2⟩ | ⟨g, cap, cur, rfl, hb, hg, hn, hm, _⟩⟩ := hown
    · subst e
      simp [Builtin.append_, run_underlying E.hT, sizeOf, typeInfo, hi, Builtin.lenOf, Builtin.firstCells]
    · simp [Builtin.append_, run_underlying E.hT, sizeOf, typeInfo, hi, Builtin.lenOf, Builtin.firstCells, hn, storeCells]
  | some ad =>
    have hle : l.length + m.length ≤ 140737488355328 := Nat.le_trans (Nat.le_mul_of_pos_right _ hpos) hl
    obtain ⟨v', w', hr, ho, hg, hn⟩ := run_append_at (P := Try.prog) w B E.TS ty E.T i0 E.z E.S E.by' E.hT hi hz0 hz1 hz2 E.hz E.pos v l.length _ hown ad m.length c (m.flatMap E.cf) (E.flen m) (fun j u hu => by
      obtain ⟨b, off, e, hcell⟩ := hc j u hu
      obtain rfl := Option.some.inj e
      by_cases h0 : j = 0
      · subst h0; simpa [Addr.add] using hcell
      · simpa [Addr.add, h0] using hcell) (E.fone m) (by unfold maxLen; omega) hl hB
    refine ⟨v', w', hr, ?_, hg, hn⟩
    unfold El.Own
    simpa using ho
/-- the region 'v = append(append([]T{}, l...), x)' -/
structure AaJ {α : Type} (E : El α) (w0 : World) (l : List α) (x : α) (b0 b2 b4 b5 : Value) (l0 l2 l4 l5 : Bool) (w : World) : Prop where
  low : Below w0.heap.size w0 w
  e0 : l0 = true → l2 = false → E.Own w w0.heap.size b0 []
  e2 : l2 = true → l5 = false → E.Own w w0.heap.size b2 l
  bx : l4 = true → l5 = false → ∃ k, b4 = .slice (some ⟨k, 0, none⟩) 1 1 ∧ w0.heap.size ≤ k ∧ k < w.heap.size ∧ E.At w (some ⟨k, 0, none⟩) [x] ∧ (l0 = true → l2 = false → b0.ownBlock ≠ some k) ∧ (l2 = true → b2.ownBlock ≠ some k)
  e5 : l5 = true → E.Own w w0.heap.size b5 (l ++ [x])
section
variable {α : Type} {E : El α} {w0 w w' : World} {l : List α} {x : α} {b0 b2 b4 b5 : Value} {l0 l2 l4 l5 : Bool}
theorem AaJ.start : AaJ E w0 l x b0 b2 b4 b5 false false false false w0.drew :=
  ⟨(Below.refl _ _).drew, fun e => (by cases e), fun e => (by cases e), fun e => (by cases e), fun e => (by cases e)⟩
theorem AaJ.start0 : AaJ E w0 l x b0 b2 b4 b5 false false false false w0 :=
  ⟨Below.refl _ _, fun e => (by cases e), fun e => (by cases e), fun e => (by cases e), fun e => (by cases e)⟩
theorem AaJ.nil (h : AaJ E w0 l x b0 b2 b4 b5 false false l4 false w) : AaJ E w0 l x (.slice (some ⟨w.heap.size, 0, none⟩) 0 0) b2 b4 b5 true false l4 false (w.alloc (.cells #[] E.T)) := by
  have hb : Below w.heap.size w (w.alloc (.cells #[] E.T)) := (Below.refl _ _).alloc (Nat.le_refl _) _
  refine ⟨h.low.trans (hb.mono h.low.size), fun _ _ => El.Own.lit w _ h.low.size [] (by simp) #[] rfl, fun e => (by cases e), fun e e' => ?_, fun e => (by cases e)⟩
  obtain ⟨k, a1, a2, a3, a4, a5, a6⟩ := h.bx e e'
  refine ⟨k, a1, a2, by rw [World.size_alloc]; omega, a4.later hb, fun _ _ e => ?_, fun e => (by cases e)⟩
  have : w.heap.size = k := by simpa [Value.ownBlock] using e
  omega
theorem AaJ.app1 {v' : Value} (h : AaJ E w0 l x b0 b2 b4 b5 true false l4 false w) (ho : E.Own w' w0.heap.size v' l) (hg : w.grownBy w' b0.ownBlock) (hn : ∀ b, v'.ownBlock = some b → b0.ownBlock = some b ∨ w.heap.size ≤ b) : AaJ E w0 l x b0 v' b4 b5 true true l4 false w' := by
  have hr : ∀ k, b0.ownBlock = some k → w0.heap.size ≤ k := fun k hk => ((h.e0 rfl rfl).lt k hk).1
  refine ⟨h.low.grown hg h.low.size hr, fun _ e => (by cases e), fun _ _ => ho, fun e e' => ?_, fun e => (by cases e)⟩
  obtain ⟨k, a1, a2, a3, a4, a5, a6⟩ := h.bx e e'
  refine ⟨k, a1, a2, Nat.lt_of_lt_of_le a3 hg.size, a4.blk (hg.block k a3 fun e2 => a5 rfl rfl e2.symm), fun _ e => (by cases e), fun _ e => ?_⟩
  rcases hn k e with h4 | h4
  · exact a5 rfl rfl h4
  · omega
theorem AaJ.one (h : AaJ E w0 l x b0 b2 b4 b5 l0 l2 false false w) (cs : Array Value) (hc : cs = (E.cf x).toArray) : AaJ E w0 l x b0 b2 (.slice (some ⟨w.heap.size, 0, none⟩) 1 1) b5 l0 l2 true false (w.alloc (.cells cs E.T)) := by
  have hb : Below w.heap.size w (w.alloc (.cells cs E.T)) := (Below.refl _ _).alloc (Nat.le_refl _) _
  refine ⟨h.low.trans (hb.mono h.low.size), fun e e' => El.Own.later (h.e0 e e') hb, fun e e' => El.Own.later (h.e2 e e') hb, fun _ _ => ⟨_, rfl, h.low.size, by rw [World.size_alloc]; omega, El.at_lit' E w [x] cs E.T (by rw [hc]; simp), fun e e' e2 => ?_, fun e e2 => ?_⟩, fun e => (by cases e)⟩
  · have := ((h.e0 e e').lt _ e2).2; omega
  · have := ((h.e2 e rfl).lt _ e2).2; omega
theorem AaJ.app2 {v' : Value} (h : AaJ E w0 l x b0 b2 b4 b5 true true true false w) (ho : E.Own w' w0.heap.size v' (l ++ [x])) (hg : w.grownBy w' b2.ownBlock) : AaJ E w0 l x b0 b2 b4 v' true true true true w' := by
  have hr : ∀ k, b2.ownBlock = some k → w0.heap.size ≤ k := fun k hk => ((h.e2 rfl rfl).lt k hk).1
  exact ⟨h.low.grown hg h.low.size hr, fun _ e => (by cases e), fun _ e => (by cases e), fun _ e => (by cases e), fun _ => ho⟩
/-- the two appends -/
theorem AaJ.run1 (h : AaJ E w0 l x b0 b2 b4 b5 true false l4 false w) (a : Option Addr) (c : Nat) (hat : E.At w a l) (hl : l.length * E.by' ≤ 140737488355328) (hpos : 0 < E.by') (ty : TypeId) : ∃ v' w', (Builtin.append_ #[E.TS, E.TS] ty #[b0, .slice a l.length c]).run Try.prog w = .ok v' w' ∧ AaJ E w0 l x b0 v' b4 b5 true true l4 false w' := by
  obtain ⟨v', w', hr, ho, hg, hn⟩ := El.appW (E := E) w w0.heap.size b0 [] l (h.e0 rfl rfl) a c hat (by simpa using hl) hpos h.low.size ty
  exact ⟨v', w', hr, h.app1 (by simpa using ho) hg hn⟩
theorem AaJ.run2 (h : AaJ E w0 l x b0 b2 b4 b5 true true true false w) (hl : (l.length + 1) * E.by' ≤ 140737488355328) (hpos : 0 < E.by') (ty : TypeId) : ∃ v' w', (Builtin.append_ #[E.TS, E.TS] ty #[b2, b4]).run Try.prog w = .ok v' w' ∧ AaJ E w0 l x b0 b2 b4 v' true true true true w' := by
  obtain ⟨k, e, _, _, hat, _⟩ := h.bx rfl rfl
  obtain ⟨v', w', hr, ho, hg, _⟩ := El.appW (E := E) w w0.heap.size b2 l [x] (h.e2 rfl rfl) (some ⟨k, 0, none⟩) 1 hat hl hpos h.low.size ty
  exact ⟨v', w', by rw [e]; exact hr, h.app2 ho hg⟩
end
/-- what All gives back is kept where only older blocks change -/
theorem ret_keep {S : Nat → Prop} {B : Nat} {a : Option Addr} {c : Nat} {L : List HA} {l : List Rec} {w' w'' : World} (ho : EH.Own w' B (.slice a L.length c) L) (hx : ∀ x ∈ L, x.1.mem.length < 9223372036854775808 ∧ (∃ r ∈ l, x.2.1 = r.ma ∧ x.1.mem = r.members) ∧ EI.Own w' B (.slice x.2.2.2.1 x.1.back.length x.2.2.2.2) x.1.back)
    (hc : Chg S w' w'') (hS : ∀ k, S k → k < B) (hra : ∀ r ∈ l, Ints w'' r.ma r.members) : EH.At w'' a L ∧ HAll w'' L ∧ L.length ≤ c ∧ c ≤ maxLen := by
  have hk : ∀ g, B ≤ g → g < w'.heap.size → w''.heap[g]? = w'.heap[g]? := fun g h1 h2 => hc.block g h2 fun e => by have := hS g e; omega
  have ho' := ho.block (w' := w'') fun g hg => hk g (ho.lt g hg).1 (ho.lt g hg).2
  obtain ⟨_, _, e, h1, h2, hat, _⟩ := ho'.at
  simp only [Value.slice.injEq, true_and] at e
  obtain ⟨rfl, rfl⟩ := e
  refine ⟨hat, fun x hxL => ?_, h1, h2⟩
  obtain ⟨hm, ⟨r, hr, e1, e2⟩, hb⟩ := hx x hxL
  have hb' := hb.block (w' := w'') fun g hg => hk g (hb.lt g hg).1 (hb.lt g hg).2
  obtain ⟨_, _, e, hl1, hl2, hat', _⟩ := hb'.at
  simp only [Value.slice.injEq, true_and] at e
  obtain ⟨rfl, rfl⟩ := e
  exact ⟨by rw [e1, e2]; exact hra r hr, hat'.ints, hm, by unfold maxLen at hl2; omega⟩
theorem exec_load_mid {P : Program} {op : Oper} {eval : Operand → Value} {w : World} (ty : TypeId) (x : Operand) (ho : op.op = .load ty x) (b o : Nat) (hx : eval x = .pointer (some ⟨b, o, none⟩)) (cs : List Value) (d : TypeDesc) (hc : w.rangeAt b o cs)
    (hu : P.underlying ty = some d) (hd : d.isRow = true) (hi : (P.info? ty).map (·.size) = some cs.length) : (execOp eval op).run P w = .ok (.value (.agg cs.toArray)) w := by
  unfold execOp
  simp only [ho, hx, Instr.loadAt, Instr.sureAddr, Sem.run_bind, Sem.run_pure, Result.andThen_ok, run_loadVar_mid w b o ty cs d hc hu hd hi]
theorem box_range {w : World} {X : Nat} {cs : List Value} (h : BoxAt w X cs) : w.rangeAt X 0 cs := fun j v hv => by rw [Nat.zero_add]; exact (h j v hv).1
theorem box_load {w : World} {X : Nat} {x : Rec} (h : BoxAt w X x.cs) : (Instr.loadAt 54 (.pointer (some ⟨X, 0, none⟩))).run Try.prog w = .ok (.agg x.cs.toArray) w :=
  run_loadAt_mid w X 0 54 x.cs _ (fun j v hv => by rw [Nat.zero_add]; exact (h j v hv).1) Try.underlying54 rfl (rec_size x)
/-! ### plain -/
theorem backH_twice (r : Rec) (h : Hd) : backH r (backH r h) = backH r h := by
  by_cases k : h.id = r.target ∧ r.author ∈ h.mem ∧ r.author ∉ h.back
  · have e : backH r h = { h with back := h.back ++ [r.author] } := if_pos k
    rw [e]
    exact if_neg fun k2 => k2.2.2 (by simp)
  · have e : backH r h = h := if_neg k
    rw [e, e]
theorem allH_snoc {ids : List ByteArray} {l : List Rec} (hlen : ids.length = l.length) (s : ByteArray) (r : Rec) : allH (ids ++ [s]) (l ++ [r]) = stepH (runH (ids.zip l)) (s, r) := by
  unfold allH
  rw [if_pos (by simp [hlen]), List.zip_append hlen]
  exact runH_snoc _ _
theorem backH_len (r : Rec) (h : Hd) : (backH r h).back.length ≤ h.back.length + 1 := by
  unfold backH
  split
  · simp
  · omega
theorem run_back_len (z : List (ByteArray × Rec)) : ∀ h ∈ runH z, h.back.length ≤ z.length := by
  have : ∀ (z : List (ByteArray × Rec)) (k : Nat) hs, (∀ h ∈ hs, h.back.length ≤ k) → ∀ h ∈ z.foldl stepH hs, h.back.length ≤ k + z.length := fun z => by
    induction z with
    | nil => exact fun _ _ h => h
    | cons x z ih =>
      intro k hs h
      rw [List.foldl_cons]
      have h1 := ih (k + 1) (stepH hs x) (by
        unfold stepH
        split
        · split
          · intro y hy
            rcases List.mem_append.1 hy with hy | hy
            · have := h y hy; omega
            · simp only [List.mem_singleton] at hy
              rw [hy]
              simp
          · intro y hy
            have := h y hy; omega
        · split
          · intro y hy
            obtain ⟨u, hu, rfl⟩ := List.mem_map.1 hy
            have h2 := backH_len x.2 u
            have h3 := h u hu
            omega
          · intro y hy
            have := h y hy; omega)
      intro y hy
      have := h1 y hy
      simp only [List.length_cons]
      omega
  intro h hh
  have := this z 0 [] (fun h hh => by cases hh) h hh
  omega
/-- what a record that is no RecHold does to a hold -/
noncomputable def gH (r : Rec) (h : Hd) : Hd := if r.kind = 6 then backH r h else h
theorem gH_twice (r : Rec) (h : Hd) : gH r (gH r h) = gH r h := by
  unfold gH
  split
  · exact backH_twice r h
  · rfl
theorem step_g {r : Rec} (h5 : ¬ r.kind = 5) (hs : List Hd) (s : ByteArray) : stepH hs (s, r) = hs.map (gH r) := by
  by_cases h6 : r.kind = 6
  · rw [step_back h6]
    refine List.map_congr_left fun h _ => ?_
    exact (if_pos h6).symm
  · rw [step_no h5 h6]
    conv => lhs; rw [← List.map_id hs]
    refine List.map_congr_left fun h _ => ?_
    exact (if_neg h6).symm
section
variable {H : Type} {enc : TypeId × Value → H} {w : World} {held : Bool}
theorem open_rec {b0 : Nat} {r : Reach} {v : Value} {d : DataW H} {p : List MemPlace} (hv : Value.okWide Try.prog w r b0 54 v) (h : DataW.Trod enc Try.prog w 0 (fun _ => true) held 54 v d p) :
    ∃ x : Rec, v = .agg x.cs.toArray ∧ RecF x ∧ Ints w x.ma x.members := by
  obtain ⟨cs, rfl, _⟩ := okWide_struct Try.underlying54 hv
  obtain ⟨fuel, hf⟩ := h
  obtain ⟨x, e, h1, h2⟩ := read_rec hf
  refine ⟨x, ?_, h1, h2⟩
  rw [e]
  simp [Value.cells]
theorem sliceD {t e : TypeId} {a : Option Addr} {n cap : Nat} {d : DataW H} {p : List MemPlace} (ht : Try.prog.underlying t = some (.slice e)) (h : DataW.Trod enc Try.prog w 0 (fun _ => true) held t (.slice a n cap) d p) : n = 0 ∨ ∃ elems spare, d = .slice elems spare ∧ elems.length = n := by
  obtain ⟨fuel, hf⟩ := h
  rcases open_slice ht hf with ⟨hcs, hx⟩ | ⟨a', len, cap', m, n', D, Pl, hcs, _, _, _, _, hx, _⟩
  · simp [Value.cells] at hcs
    exact .inl hcs.2.1
  · simp [Value.cells] at hcs
    obtain ⟨rfl, rfl, rfl⟩ := hcs
    simp only [Prod.mk.injEq] at hx
    exact .inr ⟨_, _, hx.1, by simp⟩
theorem slice_sized {ts : List TypeId} {ds : List (DataW H)} (hs : (DataW.weightsEach Try.prog ts ds).all (· ≤ reachBytes) = true) {j : Nat} {t e : TypeId} {a : Option Addr} {n cap : Nat} {d : DataW H} {p : List MemPlace} (htj : ts[j]? = some t) (hdj : ds[j]? = some d) (ht : Try.prog.underlying t = some (.slice e)) (h : DataW.Trod enc Try.prog w 0 (fun _ => true) held t (.slice a n cap) d p) (k : Nat) (hk : Try.prog.bytesOf e = k) : n * k ≤ 140737488351232 := by
  rcases sliceD ht h with h0 | ⟨elems, spare, rfl, h1⟩
  · rw [h0]; omega
  · have h2 := sized_slice hs htj hdj ht
    rw [h1, hk] at h2
    exact Nat.le_trans (Nat.mul_le_mul_right _ (by omega)) (Nat.le_trans h2 (by unfold reachBytes; omega))
end
end Go.Proofs.Ytgoomcnaemfjcaa
