/- Worlds in which only some blocks have changed; regions that draw their order, under an invariant of one's own. -/
import Derived.Test.YtgccankekflchaaFlowS
import Derived.Test.YtgccankekflchaaMaps
import Derived.Laws.AppendOwn
import Derived.Laws.OwnMore
namespace Go.Proofs.Ytgccankekflchaa
open Go Go.RowKit

/-- of the blocks that were there, only those of S may have changed -/
structure Chg (S : Nat → Prop) (w w' : World) : Prop where
  os : w'.os = w.os
  tape : w'.tape = w.tape
  output : w'.output = w.output
  size : w.heap.size ≤ w'.heap.size
  block : ∀ k, k < w.heap.size → ¬ S k → w'.heap[k]? = w.heap[k]?
theorem Chg.refl (S : Nat → Prop) (w : World) : Chg S w w := ⟨rfl, rfl, rfl, Nat.le_refl _, fun _ _ _ => rfl⟩
theorem Chg.trans {S : Nat → Prop} {a b c : World} (h : Chg S a b) (k : Chg S b c) : Chg S a c :=
  ⟨k.os.trans h.os, k.tape.trans h.tape, k.output.trans h.output, Nat.le_trans h.size k.size, fun i hi hs => (k.block i (Nat.lt_of_lt_of_le hi h.size) hs).trans (h.block i hi hs)⟩
theorem Chg.trans' {S T : Nat → Prop} {a b c : World} (h : Chg S a b) (k : Chg T b c) (hs : ∀ k, k < a.heap.size → T k → S k) : Chg S a c :=
  ⟨k.os.trans h.os, k.tape.trans h.tape, k.output.trans h.output, Nat.le_trans h.size k.size, fun i hi hn => (k.block i (Nat.lt_of_lt_of_le hi h.size) fun ht => hn (hs i hi ht)).trans (h.block i hi hn)⟩
theorem Chg.mono {S T : Nat → Prop} {w w' : World} (h : Chg S w w') (hs : ∀ k, k < w.heap.size → S k → T k) : Chg T w w' := ⟨h.os, h.tape, h.output, h.size, fun k hk ht => h.block k hk fun h' => ht (hs k hk h')⟩
theorem Chg.of_below {S : Nat → Prop} {w w' : World} (h : Below w.heap.size w w') : Chg S w w' := ⟨h.os, h.tape, h.output, h.size, fun k hk _ => h.block k hk⟩
theorem Chg.below {S : Nat → Prop} {w w' : World} {B : Nat} (h : Chg S w w') (hB : B ≤ w.heap.size) (hs : ∀ k, S k → B ≤ k) : Below B w w' := ⟨h.os, h.tape, h.output, h.size, fun k hk => h.block k (by omega) fun h' => by have := hs k h'; omega⟩
theorem Chg.grown {S : Nat → Prop} {a w w' : World} {row : Option Nat} (h : Chg S a w) (hg : w.grownBy w' row) (hr : ∀ k, row = some k → k < a.heap.size → S k) : Chg S a w' :=
  ⟨hg.os.trans h.os, hg.tape.trans h.tape, hg.output.trans h.output, Nat.le_trans h.size hg.size, fun i hi hs => (hg.block i (Nat.lt_of_lt_of_le hi h.size) (fun e => hs (hr i e.symm hi))).trans (h.block i hi hs)⟩
theorem Chg.alloc {S : Nat → Prop} {a w : World} (h : Chg S a w) (o : Obj) : Chg S a (w.alloc o) := h.trans (Chg.of_below ((Below.refl _ _).alloc (Nat.le_refl _) o))
theorem Chg.drew {S : Nat → Prop} {a w : World} (h : Chg S a w) : Chg S a w.drew := ⟨h.os, h.tape, h.output, h.size, h.block⟩
theorem Chg.setCell {S : Nat → Prop} {a w : World} (h : Chg S a w) {p : Addr} (hp : p.block < a.heap.size → S p.block) (u : Value) : Chg S a (w.setCell p u) :=
  ⟨h.os, h.tape, h.output, by simp only [World.size_setCell]; exact h.size, fun k hk hs => by rw [Below.heap_setCell w p u k (fun e => hs (by subst e; exact hp hk))]; exact h.block k hk hs⟩
theorem Chg.cell {S : Nat → Prop} {w w' : World} (h : Chg S w w') {p : Addr} {v : Value} (hc : w.cell? p = some v) (hs : ¬ S p.block) : w'.cell? p = some v :=
  (World.cell?_of_block (w := w) (h.block p.block (World.block_lt_of_cell? _ _ hc) hs)).trans hc
theorem Chg.frozen {S : Nat → Prop} {w w' : World} (h : Chg S w w') {p : Addr} (hp : p.block < w.heap.size) (hs : ¬ S p.block) : w'.frozen? p = w.frozen? p :=
  World.frozen?_of_block (w := w) (h.block p.block hp hs)
theorem Chg.map {S : Nat → Prop} {P : Program} {k : TypeId} {w w' : World} {b n : Nat} {f : Value → Option Value} (h : Chg S w w') (hm : MapIs P k w b n f) (hs : ¬ S b) : MapIs P k w' b n f :=
  hm.block (h.block b hm.lt hs)
theorem Chg.owns {S : Nat → Prop} {w w' : World} {base : Nat} {e : TypeId} {size : Nat} {v : Value} {n : Nat} {xs : List Value} (h : Chg S w w') (ho : w.ownsRow base e size v n xs) (hs : ∀ k, v.ownBlock = some k → ¬ S k) : w'.ownsRow base e size v n xs := by
  refine ⟨ho.1, ?_⟩
  rcases ho.2 with hn | ⟨g, cap, cur, rfl, hb, hgg, rest⟩
  · exact .inl hn
  · refine .inr ⟨g, cap, cur, rfl, hb, ?_, rest⟩
    rw [h.block g (Array.getElem?_eq_some_iff.1 hgg).1 (hs g rfl)]
    exact hgg

/-! ### append to a slice of the call's own: where it lies afterwards -/
theorem run_append_at {P : Program} (w : World) (base : Nat) (t ty e : TypeId) (i : TypeInfo) (z : Value) (size bytes : Nat) (ht : P.underlying t = some (.slice e)) (hi : P.info? e = some i) (hz : i.zero = some z)
    (hsize : i.size = size) (hby : i.bytes = bytes) (hzs : z.cells.size = size) (hsz : 0 < size)
    (v : Value) (n : Nat) (xs : List Value) (hown : w.ownsRow base e size v n xs)
    (a : Addr) (m c : Nat) (news : List Value) (hl : news.length = m * size) (hnews : ∀ j u, news[j]? = some u → w.cell? (a.add j) = some u) (h1 : ∀ u ∈ news, u.oneCell' = true)
    (h63 : n + m ≤ maxLen) (hbytes : (n + m) * bytes ≤ 140737488355328) (hbase : base ≤ w.heap.size) :
    ∃ v' w', (Builtin.append_ #[t, t] ty #[v, .slice (some a) m c]).run P w = .ok v' w' ∧ w'.ownsRow base e size v' (n + m) (xs ++ news) ∧ w.grownBy w' v.ownBlock ∧
      ∀ b, v'.ownBlock = some b → v.ownBlock = some b ∨ w.heap.size ≤ b := by
  obtain ⟨v', w', hr, h2, h3, _⟩ := run_append_own (P := P) w base t ty e i z size bytes ht hi hz hsize hby hzs hsz v n xs hown a m c news hl hnews h1 h63 hbytes hbase
  refine ⟨v', w', hr, h2, h3, ?_⟩
  rcases hown.2 with ⟨rfl, rfl⟩ | ⟨g, cap, cur, rfl, hbg, hg, hnc, hcm, hcs, htake⟩
  · obtain ⟨v2, w2, hr', h2', _, _⟩ := run_append_own (P := P) w w.heap.size t ty e i z size bytes ht hi hz hsize hby hzs hsz (.slice none 0 0) 0 [] (World.ownsRow_nil _ _ _ _) a m c news hl hnews h1 h63 hbytes (Nat.le_refl _)
    rw [hr] at hr'
    cases hr'
    exact fun b hb => .inr (h2'.lt b hb).1
  · by_cases hroom : n + m ≤ cap
    · obtain ⟨w2, hr', _, _⟩ := run_append_fits (P := P) w base t ty e i size ht hi hsize g n cap xs hown a m c news hl hnews h1 hroom
      rw [hr] at hr'
      cases hr'
      exact fun b hb => .inl hb
    · have holds : ∀ j u, xs[j]? = some u → w.cell? ((⟨g, 0, none⟩ : Addr).add j) = some u := hown.cells (g := g) rfl
      subst hsize
      subst hby
      have hr' := run_append_grow (P := P) w t ty e i z ht hi hz ⟨g, 0, none⟩ n cap xs hown.1 holds a m c news hl hnews (by omega) (by simp only [maxLen] at h63; omega) (growslice_fits (by omega) hbytes)
      rw [hr] at hr'
      cases hr'
      exact fun b hb => .inr (by cases hb; exact Nat.le_refl _)
theorem wp_append_at {P : Program} {w : World} {o : Oper} {a : Act} {K : Act → World → Prop} {Q : Exit → Act → World → Prop} (s x : Operand) (t : TypeId)
    (ho : o.op = .call { callee := .builtin .append, args := #[s, x], argTypes := #[t, t] })
    (base : Nat) (e : TypeId) (i : TypeInfo) (z : Value) (size bytes : Nat) (ht : P.underlying t = some (.slice e)) (hi : P.info? e = some i) (hz : i.zero = some z)
    (hsize : i.size = size) (hby : i.bytes = bytes) (hzs : z.cells.size = size) (hsz : 0 < size)
    (v : Value) (n : Nat) (xs : List Value) (hs : a.eval s = v) (hown : w.ownsRow base e size v n xs)
    (ad : Addr) (m c : Nat) (news : List Value) (hx : a.eval x = .slice (some ad) m c) (hl : news.length = m * size) (hnews : ∀ j u, news[j]? = some u → w.cell? (ad.add j) = some u) (h1 : ∀ u ∈ news, u.oneCell' = true)
    (h63 : n + m ≤ maxLen) (hbytes : (n + m) * bytes ≤ 140737488355328) (hbase : base ≤ w.heap.size)
    (h : ∀ v' w', w'.ownsRow base e size v' (n + m) (xs ++ news) → w.grownBy w' v.ownBlock → (∀ b, v'.ownBlock = some b → v.ownBlock = some b ∨ w.heap.size ≤ b) → K (a.put o.dst v') w') : o.wp P a w K Q := by
  obtain ⟨v', w', hr, h2, h3, h4⟩ := run_append_at (P := P) w base t o.type e i z size bytes ht hi hz hsize hby hzs hsz v n xs hown ad m c news hl hnews h1 h63 hbytes hbase
  unfold Oper.wp execOp
  simp only [ho, resolve, invoke, builtin, Sem.run_bind, Sem.run_pure, Result.andThen_ok, List.map_toArray, List.map_cons, List.map_nil, hs, hx, hr]
  exact h v' w' h2 h3 h4
theorem wpList_append_at {P : Program} {w : World} {ops : Array Oper} {rest : List Oper} {o : Oper} {a : Act} {Q : Exit → Act → World → Prop} (hgd : o.guard = none) (s x : Operand) (t : TypeId)
    (ho : o.op = .call { callee := .builtin .append, args := #[s, x], argTypes := #[t, t] })
    (base : Nat) (e : TypeId) (i : TypeInfo) (z : Value) (size bytes : Nat) (ht : P.underlying t = some (.slice e)) (hi : P.info? e = some i) (hz : i.zero = some z)
    (hsize : i.size = size) (hby : i.bytes = bytes) (hzs : z.cells.size = size) (hsz : 0 < size)
    (v : Value) (n : Nat) (xs : List Value) (hs : a.eval s = v) (hown : w.ownsRow base e size v n xs)
    (ad : Addr) (m c : Nat) (news : List Value) (hx : a.eval x = .slice (some ad) m c) (hl : news.length = m * size) (hnews : ∀ j u, news[j]? = some u → w.cell? (ad.add j) = some u) (h1 : ∀ u ∈ news, u.oneCell' = true)
    (h63 : n + m ≤ maxLen) (hbytes : (n + m) * bytes ≤ 140737488355328) (hbase : base ≤ w.heap.size)
    (h : ∀ v' w', w'.ownsRow base e size v' (n + m) (xs ++ news) → w.grownBy w' v.ownBlock → (∀ b, v'.ownBlock = some b → v.ownBlock = some b ∨ w.heap.size ≤ b) → wpList P ops Q rest (a.put o.dst v') w') : wpList P ops Q (o :: rest) a w :=
  wpList_plain hgd fun _ hK => wp_append_at s x t ho base e i z size bytes ht hi hz hsize hby hzs hsz v n xs hs hown ad m c news hx hl hnews h1 h63 hbytes hbase fun v' w' h2 h3 h4 => hK _ _ (h v' w' h2 h3 h4)

theorem wp_put {P : Program} {k e t : TypeId} {w : World} {b n : Nat} {f : Value → Option Value} {o : Oper} {a : Act} {K' : Act → World → Prop} {Q : Exit → Act → World → Prop} (m x v : Operand) (hop : o.op = Op.mapUpdate t m x v) (K : Go.Maps.Keyed P k) (ht : P.underlying t = some (.map k e))
    (hm : a.eval m = .map (some b)) (h : MapIs P k w b n f) (key val : Value) (l : Lit) (hx : a.eval x = key) (hv : a.eval v = val) (hkey : keyOf P k key = some l)
    (hK : ∀ w', MapIs P k w' b (n + 1) (putF f key val) → w.grownBy w' (some b) → w'.heap.size = w.heap.size → K' (a.put o.dst undef) w') : o.wp P a w K' Q := by
  obtain ⟨w', hrun, h1, h2, h3⟩ := h.store K ht hkey (v := val)
  unfold Oper.wp
  simp [execOp, hop, hm, hx, hv, hrun, Result.andThen]
  exact hK w' h1 h2 h3

section
variable {P : Program} {ops : Array Oper} {J : (Nat → Value) → (Nat → Bool) → World → Prop} {K : ((Nat → Value) → Act) → Prop} {o : Oper} {l : List Oper} {i : Nat} {A : (Nat → Value) → Act}

theorem At.not {L : Nat → Bool} (h : At ops L i) {j : Nat} (hr : reach ops ops.size i j = true) : L j = false := by
  cases hL : L j with
  | false => rfl
  | true =>
    have := reach_down h.out (fun i j => h.down i j) _ _ _ hL hr
    rw [h.un] at this
    cases this
/-- what only reads, and yields the same in every order -/
theorem FlowJ.pure {v : Value} (hw : ∀ β, Region.wanted o (yielded ops (A β).tmps) = true)
    (hJ : ∀ β L w, J β L w → At ops L i → J β (setL L i) w)
    (hr : ∀ β L w, J β L w → At ops L i → (execOp (A β).eval o).run P w = .ok (.value v) w)
    (rest : Flow P ops J K l (i + 1) (fun β => (A β).put o.dst v)) : Flow P ops J K (o :: l) i A := by
  refine ⟨fun _ => v, ⟨fun _ _ _ _ => rfl, fun β L w h hat => .inl ⟨hw β, ?_⟩⟩, rest⟩
  unfold Oper.wp
  rw [hr β L w h hat]
  refine ⟨β i, rfl, ?_⟩
  rw [updG_self]
  exact hJ β L w h hat
/-- what only reads; its value is a function of ghosts that came before it -/
theorem FlowJ.pureG {v : (Nat → Value) → Value} (hv : ∀ β k b, reach ops ops.size k i = false → v (updG β k b) = v β) (hv' : ∀ β b, v (updG β i b) = v β)
    (hw : ∀ β, Region.wanted o (yielded ops (A β).tmps) = true)
    (hJ : ∀ β L w, J β L w → At ops L i → J β (setL L i) w)
    (hr : ∀ β L w, J β L w → At ops L i → (execOp (A β).eval o).run P w = .ok (.value (v β)) w)
    (rest : Flow P ops J K l (i + 1) (fun β => (A β).put o.dst (v β))) : Flow P ops J K (o :: l) i A := by
  refine ⟨v, ⟨hv, fun β L w h hat => .inl ⟨hw β, ?_⟩⟩, rest⟩
  unfold Oper.wp
  rw [hr β L w h hat]
  refine ⟨β i, by rw [hv'], ?_⟩
  rw [updG_self]
  exact hJ β L w h hat
/-- a guarded operation that is not wanted -/
theorem FlowJ.skip (hw : ∀ β, Region.wanted o (yielded ops (A β).tmps) = false) (hJ : ∀ β L w, J β L w → At ops L i → J β (setL L i) w)
    (rest : Flow P ops J K l (i + 1) (fun β => (A β).put o.dst undef)) : Flow P ops J K (o :: l) i A := by
  refine ⟨fun _ => undef, ⟨fun _ _ _ _ => rfl, fun β L w h hat => .inr ⟨hw β, β i, rfl, ?_⟩⟩, rest⟩
  rw [updG_self]
  exact hJ β L w h hat
/-- what writes, and has no value -/
theorem FlowJ.eff (hw : ∀ β, Region.wanted o (yielded ops (A β).tmps) = true)
    (hr : ∀ β L w, J β L w → At ops L i → ∀ K' : Act → World → Prop, Hid (∀ w', J β (setL L i) w' → K' ((A β).put o.dst undef) w') → o.wp P (A β) w K' (fun _ _ _ => False))
    (rest : Flow P ops J K l (i + 1) (fun β => (A β).put o.dst undef)) : Flow P ops J K (o :: l) i A := by
  refine ⟨fun _ => undef, ⟨fun _ _ _ _ => rfl, fun β L w h hat => .inl ⟨hw β, ?_⟩⟩, rest⟩
  refine hr β L w h hat _ fun w' hJ => ⟨β i, rfl, ?_⟩
  rw [updG_self]
  exact hJ
/-- what may write, and yields the same in every order -/
theorem FlowJ.call {v : Value} (hw : ∀ β, Region.wanted o (yielded ops (A β).tmps) = true)
    (hr : ∀ β L w, J β L w → At ops L i → ∀ K' : Act → World → Prop, Hid (∀ w', J β (setL L i) w' → K' ((A β).put o.dst v) w') → o.wp P (A β) w K' (fun _ _ _ => False))
    (rest : Flow P ops J K l (i + 1) (fun β => (A β).put o.dst v)) : Flow P ops J K (o :: l) i A := by
  refine ⟨fun _ => v, ⟨fun _ _ _ _ => rfl, fun β L w h hat => .inl ⟨hw β, ?_⟩⟩, rest⟩
  refine hr β L w h hat _ fun w' hJ => ⟨β i, rfl, ?_⟩
  rw [updG_self]
  exact hJ
/-- what may write, and whose value hangs on the order: a ghost -/
theorem FlowJ.ghost (hw : ∀ β, Region.wanted o (yielded ops (A β).tmps) = true)
    (hr : ∀ β L w, J β L w → At ops L i → ∀ K' : Act → World → Prop, Hid (∀ b w', J (updG β i b) (setL L i) w' → K' ((A β).put o.dst b) w') → o.wp P (A β) w K' (fun _ _ _ => False))
    (rest : Flow P ops J K l (i + 1) (fun β => (A β).put o.dst (β i))) : Flow P ops J K (o :: l) i A := by
  refine ⟨fun β => β i, ⟨fun β k b hk => ?_, fun β L w h hat => .inl ⟨hw β, ?_⟩⟩, rest⟩
  · refine updG_ne β b fun e => ?_
    subst e
    cases hs : ops.size <;> rw [hs] at hk <;> simp [reach] at hk
  · refine hr β L w h hat _ fun b w' hJ => ⟨b, by show _ = (A β).put o.dst (updG β i b i); rw [updG_at], hJ⟩
theorem FlowJ.stop (h : K A) : Flow P ops J K [] i A := h
/-- the region -/
theorem wp_flow_j {id : Nat} {Q : Exit → Act → World → Prop} {a : Act} {w0 : World} {l : List Oper} (J : (Nat → Value) → (Nat → Bool) → World → Prop) (hm : P.follows .mixedOrders = true) (hok : flowOk l.toArray = true)
    (h0 : J (fun _ => undef) (fun i => decide (l.length ≤ i)) w0.drew)
    (h : Flow P l.toArray J (fun A => ∀ β w', J β (fun _ => true) w' → Q .normal (A β) w') l 0 (fun _ => a)) : (Code.region id l.toArray true).wp P Q a w0 :=
  wp_flow J hm hok (fun _ => undef) (by have e : l.toArray.size = l.length := by simp
                                        rw [e]; exact h0) h
end
end Go.Proofs.Ytgccankekflchaa

