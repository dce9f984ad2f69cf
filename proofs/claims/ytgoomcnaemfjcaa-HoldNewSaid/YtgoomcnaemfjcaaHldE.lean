


/- hold.All. -/
import Derived.Test.YtgoomcnaemfjcaaHldD
import Derived.StringKeys
import Derived.Deep.Cut
import Derived.Deep.CutRange
namespace Go.Proofs.Ytgoomcnaemfjcaa
open Go.RowKit

theorem K63 : Go.Maps.Keyed Try.prog 9 := Go.Maps.string_keyed (by kernel_rfl)
theorem key_str (s : ByteArray) (hs : s.size ≤ 1000) : ∃ l, keyOf Try.prog 9 (.string s) = some l := ⟨_, Go.WideMaps.keyOf_string_mk (by kernel_rfl) (by unfold maxLen; omega)⟩
abbrev ptr (b : Nat) : Value := .pointer (some ⟨b, 0, none⟩)
/-- the map of the holds by their Ids -/
def MapB (w : World) (b : Nat) (L : List (HA × Nat)) : Prop := ∃ es clock, w.heap[b]? = some (.map es clock) ∧ (∀ e ∈ es.toList, e.born < clock) ∧ es.toList.map (fun e => (e.key, e.val)) = L.map (fun x => (Value.string x.1.1.id, ptr x.2))
theorem MapB.block {w w' : World} {b : Nat} {L : List (HA × Nat)} (h : MapB w b L) (e : w'.heap[b]? = w.heap[b]?) : MapB w' b L := by
  obtain ⟨es, clock, h1, h2⟩ := h
  exact ⟨es, clock, e.trans h1, h2⟩
theorem mapB_keys {es : Array MapEntry} {L : List (HA × Nat)} (h : es.toList.map (fun e => (e.key, e.val)) = L.map (fun x => (Value.string x.1.1.id, ptr x.2))) {e : MapEntry} (he : e ∈ es.toList) : ∃ x ∈ L, e.key = .string x.1.1.id ∧ e.val = ptr x.2 := by
  have : (e.key, e.val) ∈ es.toList.map (fun e => (e.key, e.val)) := List.mem_map.2 ⟨e, he, rfl⟩
  rw [h] at this
  obtain ⟨x, hx, e'⟩ := List.mem_map.1 this
  simp only [Prod.mk.injEq] at e'
  exact ⟨x, hx, e'.1.symm, e'.2.symm⟩
theorem mapB_mem {es : Array MapEntry} {L : List (HA × Nat)} (h : es.toList.map (fun e => (e.key, e.val)) = L.map (fun x => (Value.string x.1.1.id, ptr x.2))) {x : HA × Nat} (hx : x ∈ L) : ∃ e ∈ es.toList, e.key = .string x.1.1.id ∧ e.val = ptr x.2 := by
  have : (Value.string x.1.1.id, ptr x.2) ∈ L.map (fun x => (Value.string x.1.1.id, ptr x.2)) := List.mem_map.2 ⟨x, hx, rfl⟩
  rw [← h] at this
  obtain ⟨e, he, e'⟩ := List.mem_map.1 this
  simp only [Prod.mk.injEq] at e'
  exact ⟨e, he, e'.1, e'.2⟩
theorem zeroPtr (w : World) : (zeroValue 62).run Try.prog w = .ok (.pointer none) w := by
  have : (Try.prog.info? 62).bind (·.zero) = some (.pointer none) := by kernel_rfl
  cases h : Try.prog.info? 62 with
  | none => rw [h] at this; simp at this
  | some i =>
    rw [h] at this
    simp only [Option.bind_some] at this
    simp [zeroValue, typeInfo, h, this]
/-- a look-up: a hold with this Id, or none -/
theorem MapB.look {w : World} {b : Nat} {L : List (HA × Nat)} (h : MapB w b L) (hs : ∀ x ∈ L, x.1.1.id.size ≤ 1000) (s : ByteArray) (hs1 : s.size ≤ 1000) :
    (∃ x ∈ L, x.1.1.id = s ∧ (Instr.lookup 63 (.map (some b)) (.string s) false).run Try.prog w = .ok (ptr x.2) w) ∨ ((∀ x ∈ L, x.1.1.id ≠ s) ∧ (Instr.lookup 63 (.map (some b)) (.string s) false).run Try.prog w = .ok (.pointer none) w) := by
  obtain ⟨es, clock, hb, _, hm⟩ := h
  have hk : ∀ e ∈ es.toList, ∃ l, keyOf Try.prog 9 e.key = some l := fun e he => by
    obtain ⟨x, hx, e1, _⟩ := mapB_keys hm he
    rw [e1]
    exact key_str _ (hs x hx)
  obtain ⟨l, hx⟩ := key_str s hs1
  have ht : Try.prog.underlying 63 = some (.map 9 62) := by kernel_rfl
  rcases K63.find w hx es.toList hk with ⟨r1, r2⟩ | ⟨j, e0, r1, r2, r3⟩
  · refine .inr ⟨fun x hx' e => ?_, ?_⟩
    · obtain ⟨y, hy, e1, _⟩ := mapB_mem hm hx'
      exact r2 y hy (by rw [e1, e])
    · simp [Instr.lookup, run_underlying ht, MapKept.run_getObj_map hb, K63.check w _ hx, r1, zeroPtr w, Result.andThen]
  · obtain ⟨x, hxL, e1, e2⟩ := mapB_keys hm (List.mem_of_getElem? r2)
    refine .inl ⟨x, hxL, ?_, ?_⟩
    · rw [r3] at e1
      simpa using e1.symm
    · rw [← e2]
      simp [Instr.lookup, run_underlying ht, MapKept.run_getObj_map hb, K63.check w _ hx, r1, Result.andThen]
/-- the back list of a hold by pointer -/
abbrev bkV (x : HA × Nat) : Value := .slice x.1.2.2.2.1 x.1.1.back.length x.1.2.2.2.2
/-- the loop of All -/
structure AlI (l : List Rec) (w wr : World) (S R T M : Nat) (L : List (HA × Nat)) (v : Value) : Prop where
  low : Below w.heap.size w wr
  sz : S ≤ wr.heap.size
  cR : wr.cell? ⟨R, 0, none⟩ = some (.slice none 0 0)
  fR : wr.frozen? ⟨R, 0, none⟩ = false
  cT : wr.cell? ⟨T, 0, none⟩ = some v
  fT : wr.frozen? ⟨T, 0, none⟩ = false
  own : EP.Own wr S v (L.map (·.2))
  mp : MapB wr M L
  blk : ∀ x ∈ L, S ≤ x.2 ∧ IsTy wr x.2 31 ∧ BoxAt wr x.2 (haC x.1)
  nd : (L.map (·.2)).Nodup
  bak : ∀ x ∈ L, EI.Own wr S (bkV x) x.1.1.back
  bnd : ∀ x ∈ L, ∀ y ∈ L, x.2 ≠ y.2 → ∀ g, (bkV x).ownBlock = some g → (bkV y).ownBlock ≠ some g
  mem : ∀ x ∈ L, Ints w x.1.2.1 x.1.1.mem ∧ x.1.1.mem.length < 9223372036854775808 ∧ ∃ r ∈ l, x.1.2.1 = r.ma ∧ x.1.1.mem = r.members
theorem AlI.later {l : List Rec} {w wr w' : World} {S R T M : Nat} {L : List (HA × Nat)} {v : Value} (h : AlI l w wr S R T M L v) (hb : Below wr.heap.size wr w') : AlI l w w' S R T M L v := by
  have hwl := h.low.size
  refine ⟨h.low.trans (hb.mono hwl), Nat.le_trans h.sz hb.size, cell_later hb h.cR, (hb.frozen (p := ⟨R, 0, none⟩) (World.block_lt_of_cell? _ _ h.cR)).trans h.fR, cell_later hb h.cT, (hb.frozen (p := ⟨T, 0, none⟩) (World.block_lt_of_cell? _ _ h.cT)).trans h.fT, El.Own.later h.own hb, ?_, fun x hx => ?_, h.nd, fun x hx => El.Own.later (h.bak x hx) hb, h.bnd, h.mem⟩
  · obtain ⟨es, clock, h1, h2⟩ := h.mp
    exact ⟨es, clock, (hb.block M (Array.getElem?_eq_some_iff.1 h1).1).trans h1, h2⟩
  · obtain ⟨h1, h2, h3⟩ := h.blk x hx
    exact ⟨h1, h2.block (hb.block _ h2.lt), h3.later hb⟩
theorem heap_same {S : Nat → Prop} {w w' : World} (h : Chg S w w') {k : Nat} (hk : k < w.heap.size) (hs : ¬ S k) : w'.heap[k]? = w.heap[k]? := h.block k hk hs
/-- a hold is added -/
theorem AlI.push {l : List Rec} {w w1 w2 : World} {S R T M hb : Nat} {L : List (HA × Nat)} {v b8 b9 : Value} {s : ByteArray} {r : Rec} (hRw : w.heap.size ≤ R) (hRT : R < T) (hTM : T < M) (hMS : M < S) (h : AlI l w w1 S R T M L v)
    (hne : ∀ x ∈ L, x.2 ≠ hb) (hS : S ≤ hb) (hty : IsTy w1 hb 31) (hbx : BoxAt w1 hb (haC (⟨s, r.name, r.members, []⟩, (r.ma, r.mc, none, 0)))) (hrm : Ints w r.ma r.members) (hml : r.members.length < 9223372036854775808) (hrl : r ∈ l)
    (hJ : ApJ EP (fun k => k = M) w1 S T 0 hb v (L.map (·.2)) b8 b9 true true true w2) (hM : MapB w2 M (L ++ [((⟨s, r.name, r.members, []⟩, (r.ma, r.mc, none, 0)), hb)])) :
    AlI l w w2 S R T M (L ++ [((⟨s, r.name, r.members, []⟩, (r.ma, r.mc, none, 0)), hb)]) b9 := by
  have hvo : ∀ g, v.ownBlock = some g → S ≤ g ∧ IsTy w1 g 62 := fun g hg => ⟨(h.own.lt g hg).1, h.own.ty hg⟩
  have same : ∀ k U, IsTy w1 k U → U ≠ 62 → S ≤ k → w2.heap[k]? = w1.heap[k]? := fun k U hk hU hSk => heap_same hJ.chg hk.lt fun e => by
    rcases e with e | e | e
    · omega
    · omega
    · exact absurd rfl (hk.ne (hvo k e).2 hU)
  have hRl : R < w1.heap.size := World.block_lt_of_cell? _ _ h.cR
  have hR2 : w2.heap[R]? = w1.heap[R]? := heap_same hJ.chg hRl fun e => by
    rcases e with e | e | e
    · omega
    · omega
    · have := (hvo R e).1; omega
  refine ⟨h.low.trans (hJ.chg.below h.low.size fun k hk => ?_), Nat.le_trans h.sz hJ.chg.size, (World.cell?_of_block (w := w1) (a := ⟨R, 0, none⟩) hR2).trans h.cR, (World.frozen?_of_block (w := w1) (a := ⟨R, 0, none⟩) hR2).trans h.fR, hJ.cell, hJ.fro, ?_, hM, fun x hx => ?_, ?_, fun x hx => ?_, fun x hx y hy => ?_, fun x hx => ?_⟩
  · rcases hk with e | e | e
    · omega
    · omega
    · have := (hvo k e).1; omega
  · have := hJ.own
    simpa using this
  · rcases List.mem_append.1 hx with hx | hx
    · obtain ⟨h1, h2, h3⟩ := h.blk x hx
      have e := same x.2 _ h2 (by decide) h1
      exact ⟨h1, h2.block e, h3.block e⟩
    · obtain rfl := List.mem_singleton.1 hx
      have e := same hb _ hty (by decide) hS
      exact ⟨hS, hty.block e, hbx.block e⟩
  · rw [List.map_append, List.nodup_append]
    refine ⟨h.nd, by simp, fun a ha b hb' => ?_⟩
    obtain ⟨x, hx, rfl⟩ := List.mem_map.1 ha
    simp at hb'
    rw [hb']
    exact hne x hx
  · rcases List.mem_append.1 hx with hx | hx
    · refine (h.bak x hx).block fun g hg => ?_
      exact same g _ ((h.bak x hx).ty hg) (by decide) ((h.bak x hx).lt g hg).1
    · obtain rfl := List.mem_singleton.1 hx
      exact El.Own.nil _ _ _
  · intro hxy g hg
    rcases List.mem_append.1 hx with hx | hx
    · rcases List.mem_append.1 hy with hy | hy
      · exact h.bnd x hx y hy hxy g hg
      · obtain rfl := List.mem_singleton.1 hy
        intro e
        cases e
    · obtain rfl := List.mem_singleton.1 hx
      cases hg
  · rcases List.mem_append.1 hx with hx | hx
    · exact h.mem x hx
    · obtain rfl := List.mem_singleton.1 hx
      exact ⟨hrm, hml, r, hrl, rfl, rfl⟩
theorem stepH_len (hs : List Hd) (x : ByteArray × Rec) : (stepH hs x).length ≤ hs.length + 1 := by
  unfold stepH
  split
  · split
    · simp
    · omega
  · split
    · simp
    · omega
theorem runH_len (z : List (ByteArray × Rec)) : (runH z).length ≤ z.length := by
  have : ∀ (z : List (ByteArray × Rec)) hs, (z.foldl stepH hs).length ≤ hs.length + z.length := fun z => by
    induction z with
    | nil => intro hs; simp
    | cons x z ih =>
      intro hs
      have h1 := ih (stepH hs x)
      have h2 := stepH_len hs x
      simp only [List.foldl_cons, List.length_cons]
      omega
  unfold runH
  simpa using this z []
theorem runH_back (z : List (ByteArray × Rec)) : ∀ h ∈ runH z, h.back.length ≤ z.length := by
  have : ∀ (z : List (ByteArray × Rec)) hs c, (∀ h ∈ hs, h.back.length ≤ c) → ∀ h ∈ z.foldl stepH hs, h.back.length ≤ c + z.length := fun z => by
    induction z with
    | nil => intro hs c h0 h hh; exact h0 h hh
    | cons x z ih =>
      intro hs c h0 h hh
      have := ih (stepH hs x) (c + 1) (fun k hk => by
        unfold stepH at hk
        split at hk
        · split at hk
          · rcases List.mem_append.1 hk with h1 | h1
            · have := h0 k h1; omega
            · simp at h1
              rw [h1]
              simp
          · have := h0 k hk; omega
        · split at hk
          · obtain ⟨j, hj, rfl⟩ := List.mem_map.1 hk
            have := h0 j hj
            unfold backH
            split
            · simp; omega
            · omega
          · have := h0 k hk; omega) h hh
      simp only [List.length_cons]
      omega
  intro h hh
  have := this z [] 0 (by simp) h hh
  omega
theorem wp_estore {w w' : World} {o : Oper} {a : Act} {K : Act → World → Prop} {Q : Exit → Act → World → Prop} (t : TypeId) (m st x : Operand) (ho : o.op = .entryStore t m st x) (mv sv xv : Value) (hm : a.eval m = mv) (hs : a.eval st = sv) (hx : a.eval x = xv)
    (hr : (Instr.entryStore t mv sv xv).run Try.prog w = .ok () w') (h : K (a.put o.dst undef) w') : o.wp Try.prog a w K Q := by
  unfold Oper.wp
  simp [execOp, ho, hm, hs, hx, hr, Result.andThen]
  exact h
theorem grown_setBlock {w : World} {b : Nat} {es : Array MapEntry} {clock : Nat} (hb : w.heap[b]? = some (.map es clock)) (o : Obj) : w.grownBy (Go.ChangeMaps.setBlock w b o) (some b) :=
  ⟨rfl, rfl, rfl, by simp [Go.ChangeMaps.setBlock], fun i _ hi => Go.ChangeMaps.heap_setBlock_other hb _ (fun e => hi (by rw [e]))⟩
/-- the hold x with one more that has given it back -/
def updX (x : HA × Nat) (n : Int) (ba : Option Addr) (bc : Nat) : HA × Nat := ((⟨x.1.1.id, x.1.1.veh, x.1.1.mem, x.1.1.back ++ [n]⟩, (x.1.2.1, x.1.2.2.1, ba, bc)), x.2)
def updL (L : List (HA × Nat)) (x : HA × Nat) (n : Int) (ba : Option Addr) (bc : Nat) : List (HA × Nat) := L.map fun y => if y.2 = x.2 then updX x n ba bc else y
theorem nodup_inj {α β : Type} {f : α → β} {l : List α} {x y : α} (h : (l.map f).Nodup) (hx : x ∈ l) (hy : y ∈ l) (e : f x = f y) : x = y := by
  induction l with
  | nil => cases hx
  | cons a l ih =>
    rw [List.map_cons, List.nodup_cons] at h
    rcases List.mem_cons.1 hx with rfl | hx'
    · rcases List.mem_cons.1 hy with rfl | hy'
      · rfl
      · exact (h.1 (List.mem_map.2 ⟨y, hy', e.symm⟩)).elim
    · rcases List.mem_cons.1 hy with rfl | hy'
      · exact (h.1 (List.mem_map.2 ⟨x, hx', e⟩)).elim
      · exact ih h.2 hx' hy'
theorem updL_mem {L : List (HA × Nat)} {x : HA × Nat} {n : Int} {ba : Option Addr} {bc : Nat} (_ : x ∈ L) {y : HA × Nat} (hy : y ∈ updL L x n ba bc) : y = updX x n ba bc ∨ (y ∈ L ∧ y.2 ≠ x.2) := by
  obtain ⟨z, hz, rfl⟩ := List.mem_map.1 hy
  by_cases e : z.2 = x.2
  · rw [if_pos e]; exact .inl rfl
  · rw [if_neg e]; exact .inr ⟨hz, e⟩
theorem AlI.upd {l : List Rec} {w w1 w2 : World} {S R T M : Nat} {L : List (HA × Nat)} {v b7 b8 : Value} {x : HA × Nat} {n : Int} {ba : Option Addr} {bc : Nat} (hRw : w.heap.size ≤ R) (hRT : R < T) (hTM : T < M) (hMS : M < S) (h : AlI l w w1 S R T M L v) (hx : x ∈ L)
    (hJ : ApJ EI (fun _ => False) w1 S x.2 3 n (bkV x) x.1.1.back b7 b8 true true true w2) (h8 : b8 = .slice ba (x.1.1.back ++ [n]).length bc) :
    AlI l w w2 S R T M (updL L x n ba bc) v := by
  obtain ⟨hxS, hxT, hxB⟩ := h.blk x hx
  have hvo : ∀ g, v.ownBlock = some g → S ≤ g ∧ IsTy w1 g 62 := fun g hg => ⟨(h.own.lt g hg).1, h.own.ty hg⟩
  have hbo : ∀ y ∈ L, ∀ g, (bkV y).ownBlock = some g → S ≤ g ∧ IsTy w1 g 3 := fun y hy g hg => ⟨((h.bak y hy).lt g hg).1, (h.bak y hy).ty hg⟩
  have low : ∀ k, k < S → k < w1.heap.size → w2.heap[k]? = w1.heap[k]? := fun k hk hk1 => heap_same hJ.chg hk1 fun e => by
    rcases e with e | e | e
    · exact e
    · omega
    · have := (hbo x hx k e).1; omega
  have hTl : T < w1.heap.size := World.block_lt_of_cell? _ _ h.cT
  have hRl : R < w1.heap.size := World.block_lt_of_cell? _ _ h.cR
  have hR2 := low R (by omega) hRl
  have hT2 := low T (by omega) hTl
  have hsnd : (updL L x n ba bc).map (·.2) = L.map (·.2) := by
    unfold updL
    rw [List.map_map]
    refine List.map_congr_left fun y _ => ?_
    show (if y.2 = x.2 then updX x n ba bc else y).2 = y.2
    split
    · rename_i e; exact e.symm
    · rfl
  have hfst : (updL L x n ba bc).map (fun x => (Value.string x.1.1.id, ptr x.2)) = L.map (fun x => (Value.string x.1.1.id, ptr x.2)) := by
    unfold updL
    rw [List.map_map]
    refine List.map_congr_left fun y hy => ?_
    show (Value.string (if y.2 = x.2 then updX x n ba bc else y).1.1.id, ptr (if y.2 = x.2 then updX x n ba bc else y).2) = _
    split
    · rename_i e
      obtain rfl := nodup_inj h.nd hy hx e
      rfl
    · rfl
  refine ⟨h.low.trans (hJ.chg.below h.low.size fun k hk => ?_), Nat.le_trans h.sz hJ.chg.size, (World.cell?_of_block (w := w1) (a := ⟨R, 0, none⟩) hR2).trans h.cR, (World.frozen?_of_block (w := w1) (a := ⟨R, 0, none⟩) hR2).trans h.fR, (World.cell?_of_block (w := w1) (a := ⟨T, 0, none⟩) hT2).trans h.cT, (World.frozen?_of_block (w := w1) (a := ⟨T, 0, none⟩) hT2).trans h.fT, ?_, ?_, fun y hy => ?_, by rw [hsnd]; exact h.nd, fun y hy => ?_, fun y hy z hz => ?_, fun y hy => ?_⟩
  · rcases hk with e | e | e
    · exact e.elim
    · omega
    · have := (hbo x hx k e).1; omega
  · rw [hsnd]
    refine h.own.block fun g hg => heap_same hJ.chg (hvo g hg).2.lt fun e => ?_
    rcases e with e | e | e
    · exact e
    · exact absurd e ((hvo g hg).2.ne hxT (by decide))
    · exact absurd rfl ((hvo g hg).2.ne (hbo x hx g e).2 (by decide))
  · obtain ⟨es, clock, h1, h2, h3⟩ := h.mp
    exact ⟨es, clock, (low M (by omega) (Array.getElem?_eq_some_iff.1 h1).1).trans h1, h2, by rw [hfst]; exact h3⟩
  · rcases updL_mem hx hy with rfl | ⟨hy, hne⟩
    · refine ⟨hxS, hJ.ty _ hxT, fun o u ho => ?_⟩
      have hc := hJ.cell
      rw [h8] at hc
      match o, ho with
      | 0, ho => exact ⟨(hJ.rest 0 (by decide)).1.trans (hxB 0 u ho).1, (hJ.rest 0 (by decide)).2.trans (hxB 0 u ho).2⟩
      | 1, ho => exact ⟨(hJ.rest 1 (by decide)).1.trans (hxB 1 u ho).1, (hJ.rest 1 (by decide)).2.trans (hxB 1 u ho).2⟩
      | 2, ho => exact ⟨(hJ.rest 2 (by decide)).1.trans (hxB 2 u ho).1, (hJ.rest 2 (by decide)).2.trans (hxB 2 u ho).2⟩
      | 3, ho => cases ho; exact ⟨hc, hJ.fro⟩
      | k + 4, ho => simp [updX] at ho
    · obtain ⟨h1, h2, h3⟩ := h.blk y hy
      have e := heap_same hJ.chg h2.lt fun e => by
        rcases e with e | e | e
        · exact e
        · exact hne e
        · exact absurd rfl (h2.ne (hbo x hx y.2 e).2 (by decide))
      exact ⟨h1, h2.block e, h3.block e⟩
  · rcases updL_mem hx hy with rfl | ⟨hy, hne⟩
    · have := hJ.own
      simp only [if_true] at this
      rw [h8] at this
      exact this
    · refine (h.bak y hy).block fun g hg => heap_same hJ.chg (hbo y hy g hg).2.lt fun e => ?_
      rcases e with e | e | e
      · exact e
      · exact absurd e ((hbo y hy g hg).2.ne hxT (by decide))
      · exact h.bnd y hy x hx hne g hg e
  · intro hyz g hg
    have h8o : ∀ g, (bkV (updX x n ba bc)).ownBlock = some g → (bkV x).ownBlock = some g ∨ w1.heap.size ≤ g := fun g hg => hJ.nb rfl g (by rw [h8]; exact hg)
    rcases updL_mem hx hy with rfl | ⟨hy, hne⟩
    · rcases updL_mem hx hz with rfl | ⟨hz, hne2⟩
      · exact absurd rfl hyz
      · intro e
        rcases h8o g hg with h1 | h1
        · exact h.bnd z hz x hx hne2 g e h1
        · have := ((h.bak z hz).lt g e).2; omega
    · rcases updL_mem hx hz with rfl | ⟨hz, hne2⟩
      · intro e
        rcases h8o g e with h1 | h1
        · exact h.bnd y hy x hx hne g hg h1
        · have := ((h.bak y hy).lt g hg).2; omega
      · exact h.bnd y hy z hz hyz g hg
  · rcases updL_mem hx hy with rfl | ⟨hy, _⟩
    · exact h.mem x hx
    · exact h.mem y hy
theorem backH_same {r : Rec} {hs : List Hd} (h : ∀ k ∈ hs, ¬ (k.id = r.target ∧ r.author ∈ k.mem ∧ r.author ∉ k.back)) : hs.map (backH r) = hs := by
  conv => rhs; rw [← List.map_id hs]
  refine List.map_congr_left fun k hk => ?_
  unfold backH
  rw [if_neg (h k hk)]
  rfl
/-- of the holds, only the one with this Id can be given back -/
theorem backH_at {L : List (HA × Nat)} (hu : Uniq (L.map (·.1.1))) {x : HA × Nat} (hx : x ∈ L) {y : HA × Nat} (hy : y ∈ L) (e : y.1.1.id = x.1.1.id) : y = x := by
  unfold Uniq at hu
  rw [List.map_map] at hu
  exact nodup_inj hu hy hx e
theorem backH_upd {L : List (HA × Nat)} {r : Rec} (hu : Uniq (L.map (·.1.1))) (hnd : (L.map (·.2)).Nodup) {x : HA × Nat} (hx : x ∈ L) (h1 : x.1.1.id = r.target) (h2 : r.author ∈ x.1.1.mem) (h3 : r.author ∉ x.1.1.back) (ba : Option Addr) (bc : Nat) :
    (updL L x r.author ba bc).map (·.1.1) = (L.map (·.1.1)).map (backH r) := by
  unfold updL
  rw [List.map_map, List.map_map]
  refine List.map_congr_left fun y hy => ?_
  show (if y.2 = x.2 then updX x r.author ba bc else y).1.1 = backH r y.1.1
  split
  · rename_i e
    obtain rfl := nodup_inj hnd hy hx e
    unfold backH
    rw [if_pos ⟨h1, h2, h3⟩]
    rfl
  · rename_i e
    unfold backH
    rw [if_neg]
    rintro ⟨h4, _⟩
    exact e (by rw [backH_at hu hx hy (h4.trans h1.symm)])
theorem there_new (w : World) (z : List Value) (T : TypeId) (n : Nat) (hn : n ≤ z.length) : (w.alloc (.cells z.toArray T)).there w.heap.size 0 n := fun j hj => by
  have h := BoxAt.new w z T j _ (List.getElem?_eq_getElem (by omega))
  rw [Nat.zero_add]
  exact ⟨by rw [h.1]; rfl, h.2⟩
theorem step_no {hs : List Hd} {s : ByteArray} {r : Rec} (h5 : r.kind ≠ 5) (h6 : r.kind ≠ 6) : stepH hs (s, r) = hs := by
  unfold stepH
  rw [if_neg h5, if_neg h6]
theorem step_out {hs : List Hd} {s : ByteArray} {r : Rec} (h5 : r.kind = 5) (h : r.members = [] ∨ ∃ x ∈ hs, x.id = s) : stepH hs (s, r) = hs := by
  unfold stepH
  rw [if_pos h5, if_neg]
  rintro ⟨h1, h2⟩
  rcases h with h | ⟨x, hx, e⟩
  · exact h1 h
  · exact h2 x hx e
theorem step_new {hs : List Hd} {s : ByteArray} {r : Rec} (h5 : r.kind = 5) (h1 : r.members ≠ []) (h2 : ∀ x ∈ hs, x.id ≠ s) : stepH hs (s, r) = hs ++ [⟨s, r.name, r.members, []⟩] := by
  unfold stepH
  rw [if_pos h5, if_pos ⟨h1, h2⟩]
theorem step_back {hs : List Hd} {s : ByteArray} {r : Rec} (h6 : r.kind = 6) : stepH hs (s, r) = hs.map (backH r) := by
  unfold stepH
  rw [if_neg (show ¬ r.kind = 5 by omega), if_pos h6]
theorem El.Own.mono {α : Type} {E : El α} {w : World} {B B' : Nat} {v : Value} {l : List α} (h : E.Own w B v l) (hB : B' ≤ B) : E.Own w B' v l := by
  refine ⟨h.1, ?_⟩
  rcases h.2 with hn | ⟨g, cap, cur, rfl, hb, rest⟩
  · exact .inl hn
  · exact .inr ⟨g, cap, cur, rfl, Nat.le_trans hB hb, rest⟩
/-- all that the call gives back is new, but for the members -/
def RetN (l : List Rec) (w : World) (hs : List Hd) (e : Ending) (w' : World) : Prop := ∃ a c L, e = .returned (.slice a L.length c) ∧ L.map (·.1) = hs ∧ EH.Own w' w.heap.size (.slice a L.length c) L ∧ (∀ x ∈ L, Ints w x.2.1 x.1.mem ∧ x.1.mem.length < 9223372036854775808 ∧ (∃ r ∈ l, x.2.1 = r.ma ∧ x.1.mem = r.members) ∧ EI.Own w' w.heap.size (.slice x.2.2.2.1 x.1.back.length x.2.2.2.2) x.1.back) ∧ Below w.heap.size w w'
def RetH (w : World) (hs : List Hd) (e : Ending) (w' : World) : Prop := ∃ a c L, e = .returned (.slice a L.length c) ∧ L.map (·.1) = hs ∧ EH.At w' a L ∧ HAll w' L ∧ L.length ≤ c ∧ c ≤ maxLen ∧ (a = none → c = 0) ∧ Below w.heap.size w w'
theorem RetN.h {l : List Rec} {w : World} {hs : List Hd} {e : Ending} {w' : World} (h : RetN l w hs e w') : RetH w hs e w' := by
  obtain ⟨a, c, K, he, hL, ho, hx, hb⟩ := h
  obtain ⟨a2, c2, e2, h1, h2, hat, hwh⟩ := ho.at
  simp only [Value.slice.injEq, true_and] at e2
  obtain ⟨rfl, rfl⟩ := e2
  refine ⟨a, c, K, he, hL, hat, fun y hy => ?_, h1, h2, fun e => ?_, hb⟩
  · obtain ⟨hm1, hm2, _, hbk⟩ := hx y hy
    obtain ⟨a', c', e', hl1, hl2, hat', _⟩ := hbk.at
    simp only [Value.slice.injEq, true_and] at e'
    obtain ⟨rfl, rfl⟩ := e'
    exact ⟨hm1.later hb, hat'.ints, hm2, by unfold maxLen at hl2; omega⟩
  · rcases hwh with ⟨_, h, _⟩ | ⟨g, h, _⟩
    · exact h
    · rw [e] at h; cases h
set_option maxRecDepth 100000 in
theorem all_ne (ids : List ByteArray) (l : List Rec) (ia ra : Option Addr) (ic rc : Nat) (w : World) (hne : ids.length ≠ l.length) :
    Calls Try.prog 11 #[.slice ia ids.length ic, .slice ra l.length rc] w (RetN l w (allH ids l)) := by
  have HD := Lib.hid (show allH ids l = [] from if_neg hne)
  have e0 : ((ids.length : Int) == (l.length : Int)) = false := by simp; omega
  have e0' : (ids.length == l.length) = false := by simpa using hne
  clear hne
  go_enter_defers Try.func11, Try.ntmps11
  go_wp2_with fail
  refine ⟨.slice none 0 0, by simp [results, go_sem], none, 0, [], rfl, by rw [HD.out]; rfl, El.Own.nil _ _ _, fun x hx => (by cases hx), (by repeat (first | exact Below.refl _ _ | assumption | refine Below.drew ?_ | refine below_drewN ?_ _ | refine Below.alloc ?_ (by first | omega | (simp; done) | (simp; omega)) _ | refine Below.setCell ?_ (by first | omega | (simp; done) | (simp; omega)) _ | refine Below.trans ?_ (Below.mono (by assumption) (by first | omega | (simp; done) | (simp; omega)))))⟩
set_option maxRecDepth 100000 in
set_option maxHeartbeats 4000000 in
theorem all_eq (ids : List ByteArray) (l : List Rec) (ia ra : Option Addr) (ic rc : Nat) (w : World) (hlen : ids.length = l.length) (hI : ES.At w ia ids) (hR : ER.At w ra l) (hA : RecAll w l) (hl : l.length ≤ 1000) (hs : ∀ s ∈ ids, s.size ≤ 1000) (ht : ∀ r ∈ l, r.target.size ≤ 1000) :
    Calls Try.prog 11 #[.slice ia ids.length ic, .slice ra l.length rc] w (RetN l w (allH ids l)) := by
  have hmf : ∀ (fn : Fn) (first cap : Array Value) (w : World), (Instr.makeFunc fn first cap).run Try.prog w = .ok (.func fn first cap) w := fun _ _ _ _ => rfl
  have hmm := @run_makeMap Try.prog
  have HD := Lib.hid (show allH ids l = runH (ids.zip l) from if_pos hlen)
  have HLEN := Lib.hid hlen
  have HI := Lib.hid hI
  have HR := Lib.hid hR
  have HRA := Lib.hid hA
  have HS := Lib.hid hs
  have HT := Lib.hid ht
  obtain ⟨n, hn⟩ : ∃ n, n = l.length := ⟨_, rfl⟩
  have HN := Lib.hid hn
  rw [hlen, ← hn]
  rw [← hn] at hl
  clear hlen hI hR hA hs ht hn
  have e0 : ((n : Int) == (n : Int)) = true := by simp
  go_enter_defers Try.func11, Try.ntmps11
  go_wp2_with fail
  obtain ⟨wq, hwq⟩ : ∃ wq, wq = (((w.alloc (Obj.cells #[Value.slice none 0 0] 26)).alloc (Obj.cells #[Value.slice none 0 0] 61)).alloc (Obj.map #[] 0)) := ⟨_, rfl⟩
  rw [← hwq]
  obtain ⟨R, hR⟩ : ∃ R, R = w.heap.size := ⟨_, rfl⟩
  obtain ⟨S, hS⟩ : ∃ S, S = w.heap.size + 1 + 1 + 1 := ⟨_, rfl⟩
  have AI0 : AlI l w wq S R (R + 1) (R + 1 + 1) [] (.slice none 0 0) := by
    subst hR hS
    refine ⟨?_, ?_, ?_, ?_, ?_, ?_, El.Own.nil _ _ _, ⟨#[], 0, ?_, ?_, ?_⟩, fun x hx => (by cases hx), by simp, fun x hx => (by cases hx), fun x hx => (by cases hx), fun x hx => (by cases hx)⟩
    · rw [hwq]; exact (by repeat (first | exact Below.refl _ _ | assumption | refine Below.drew ?_ | refine below_drewN ?_ _ | refine Below.alloc ?_ (by first | omega | (simp; done) | (simp; omega)) _ | refine Below.setCell ?_ (by first | omega | (simp; done) | (simp; omega)) _ | refine Below.trans ?_ (Below.mono (by assumption) (by first | omega | (simp; done) | (simp; omega)))))
    · rw [hwq]; simp
    · rw [hwq]; simp [go_sem]
    · rw [hwq]; simp [go_sem]
    · rw [hwq]; simp [go_sem]
    · rw [hwq]; simp [go_sem]
    · rw [hwq]
      have := heap_alloc_new ((w.alloc (Obj.cells #[Value.slice none 0 0] 26)).alloc (Obj.cells #[Value.slice none 0 0] 61)) (Obj.map #[] 0)
      simp only [World.size_alloc] at this
      exact this
    · intro e he; simp at he
    · rfl
  have AI1 := Lib.hid AI0
  have HRW := Lib.hid hR
  have HSW := Lib.hid hS
  have hRS : S = R + 1 + 1 + 1 := by omega
  rw [← hR]
  clear hwq AI0 hR hS
  go_loopg [20] (n + 1) (fun g v20 wr => ∃ (i : Nat) (L : List (HA × Nat)) (v : Value), i ≤ n ∧ g + i = n + 1 ∧ v20 = .int .i64 i ∧ AlI l w wr S R (R + 1) (R + 1 + 1) L v ∧ L.map (·.1.1) = runH ((ids.zip l).take i))
  case atStart => exact ⟨0, [], .slice none 0 0, by omega, by omega, rfl, AI1.out, rfl⟩
  case round =>
    obtain ⟨i, L, v, hi, hgi, rfl, ha, hrun⟩ := hrel
    have AI := Lib.hid ha
    have HRUN := Lib.hid hrun
    have hsz := ha.sz
    clear ha hrun
    by_cases hlt : i < n
    · have hiI : i < ids.length := by have := HLEN.out; have := HN.out; omega
      have hiL : i < l.length := by have := HN.out; omega
      have hlow := AI.out.low
      have hIr := HI.out.later hlow
      have hRr := HR.out.later hlow
      obtain ⟨ib, io, rfl, _⟩ := hIr.head (by omega)
      obtain ⟨rb, ro, rfl, _⟩ := hRr.head (by omega)
      have hsc := str_cell hIr hiI
      have hrg := hRr.range hiL
      rw [show ER.S = 36 from rfl] at hrg
      obtain ⟨hrf, hrm⟩ := HRA.out _ (List.getElem_mem hiL)
      have hs1 := HS.out _ (List.getElem_mem hiI)
      have ht1 := HT.out _ (List.getElem_mem hiL)
      have htk : (ids.zip l).take (i + 1) = (ids.zip l).take i ++ [(ids[i], l[i])] := by
        rw [List.take_succ_eq_append_getElem (by rw [List.length_zip]; omega)]
        simp
      have hrl : l[i] ∈ l := List.getElem_mem hiL
      obtain ⟨r, hr⟩ : ∃ r, r = l[i] := ⟨_, rfl⟩
      obtain ⟨s, hs⟩ : ∃ s, s = ids[i] := ⟨_, rfl⟩
      rw [← hr] at hrg hrf hrm ht1 htk hrl
      have HRL := Lib.hid hrl
      clear hrl
      rw [← hs] at hsc hs1 htk
      change wr.rangeAt rb (ro + i * 36) r.cs at hrg
      have HRG := Lib.hid hrg
      have HRF := Lib.hid hrf
      have HRM := Lib.hid hrm
      have HTK := Lib.hid htk
      have n1 : (i : Int) < (n : Int) := by omega
      have n0 : (0 : Int) ≤ (i : Int) := by omega
      clear hIr hRr hrg hrf hrm htk hr hs hlow
      go_upto_region 9 with (first | (refine wpList_load_mid rfl 54 _ rfl rb (ro + i * 36) rfl r.cs _ HRG.out Try.underlying54 rfl (rec_size r) ?_) | (refine wpList_store_mid rfl 54 _ _ rfl wr.heap.size 0 r.cs.toArray rfl rfl ?_ (by simpa using rec_size r) (all_oneCell_toArray r.h1) ?_))
      case refine_1 => exact there_new wr _ _ _ (by simp [r.hl])
      case refine_2 =>
      simp only [Act.put]
      obtain ⟨wz, hwz⟩ : ∃ wz, wz = ((wr.alloc (Obj.cells #[Value.int IntKind.i64 0, Value.int IntKind.i64 0, Value.int IntKind.i64 0, Value.string { data := #[] }, Value.int IntKind.i64 0, Value.string { data := #[] }, Value.string { data := #[] }, Value.string { data := #[] }, Value.slice none 0 0, Value.slice none 0 0, Value.bool false, Value.int IntKind.i64 0, Value.int IntKind.i64 0, Value.int IntKind.i64 0, Value.bool false, Value.string { data := #[] }, Value.string { data := #[] }, Value.int IntKind.i64 0, Value.string { data := #[] }, Value.string { data := #[] }, Value.int IntKind.i64 0, Value.int IntKind.i64 0, Value.slice none 0 0, Value.string { data := #[] }, Value.string { data := #[] }, Value.int IntKind.i64 0, Value.string { data := #[] }, Value.string { data := #[] }, Value.int IntKind.i64 0, Value.int IntKind.i64 0, Value.string { data := #[] }, Value.string { data := #[] }, Value.int IntKind.i64 0, Value.int IntKind.i64 0, Value.slice none 0 0, Value.slice none 0 0] 54)).setCells wr.heap.size 0 r.cs) := ⟨_, rfl⟩
      rw [← hwz]
      have hbz : Below wr.heap.size wr wz := by rw [hwz]; exact below_setCells _ _ _ _ (by repeat (first | exact Below.refl _ _ | assumption | refine Below.drew ?_ | refine below_drewN ?_ _ | refine Below.alloc ?_ (by first | omega | (simp; done) | (simp; omega)) _ | refine Below.setCell ?_ (by first | omega | (simp; done) | (simp; omega)) _ | refine Below.trans ?_ (Below.mono (by assumption) (by first | omega | (simp; done) | (simp; omega))))) (Nat.le_refl _)
      have hrz : RcC wz wr.heap.size 0 r := rc_of (by rw [hwz]; exact World.rangeAt_setCells_same _ _ _ _ (there_new wr _ _ _ (by simp [r.hl]))) HRF.out
      have AZ := Lib.hid (AI.out.later hbz)
      have hscz := cell_later hbz hsc
      have hszz := hbz.size
      obtain ⟨q, hq⟩ : ∃ q, q = wr.heap.size := ⟨_, rfl⟩
      rw [← hq] at hrz ⊢
      have hrz' := hrz
      obtain ⟨k0, k1, k5, k6, k8⟩ := hrz'
      simp only [Nat.zero_add] at k1 k5 k6 k8
      have HRZ := Lib.hid hrz
      have hqz : q < wz.heap.size := World.block_lt_of_cell? _ _ k0
      have HQ := Lib.hid hq
      clear hwz hbz hrz hsc hszz hq
      have HIDS := Lib.hid (show ∀ x ∈ L, x.1.1.id.size ≤ 1000 from fun x hx => by
        have : x.1.1 ∈ runH ((ids.zip l).take i) := by rw [← HRUN.out]; exact List.mem_map.2 ⟨x, hx, rfl⟩
        obtain ⟨y, hy, e⟩ := runH_ids _ _ this
        rw [e]
        exact HS.out _ (List.of_mem_zip (List.mem_of_mem_take hy)).1)
      by_cases h5 : r.kind = 5
      · have H5 := Lib.hid h5
        rw [h5] at k0
        clear h5
        by_cases hm : r.members = []
        · have HM := Lib.hid hm
          have hml : r.members.length = 0 := by rw [hm]; rfl
          rw [hml] at k8
          clear hm hml
          go_wp2_with fail
          go_roundg (n - i)
          case measure => omega
          case rel => exact ⟨i + 1, L, v, by omega, by omega, by go_num, AZ.out, by rw [HTK.out, runH_snoc, ← HRUN.out, step_out H5.out (.inl HM.out)]⟩
        · have hml : 0 < r.members.length := List.length_pos_iff.2 hm
          have HM := Lib.hid hm
          obtain ⟨ml, hmle⟩ : ∃ ml, ml = r.members.length := ⟨_, rfl⟩
          rw [← hmle] at k8 hml
          have HML := Lib.hid hmle
          have d1 : decide (0 < ml) = true := decide_eq_true hml
          clear hm hmle
          rcases AZ.out.mp.look HIDS.out s hs1 with ⟨x, hxL, hxs, hlook⟩ | ⟨hno, hlook⟩
          · have HX := Lib.hid (And.intro hxL hxs)
            clear hxL hxs
            go_wp2_with fail
            go_roundg (n - i)
            case measure => omega
            case rel => exact ⟨i + 1, L, v, by omega, by omega, by go_num, AZ.out, by rw [HTK.out, runH_snoc, ← HRUN.out, step_out H5.out (.inr ⟨x.1.1, List.mem_map.2 ⟨x, HX.out.1, rfl⟩, HX.out.2⟩)]⟩
          · have HNO := Lib.hid hno
            clear hno
            go_upto_region 12 with fail
            refine wp_flow_j (fun β L' w' => Below wz.heap.size wz w' ∧ (L' 9 = true → ∃ hb, β 9 = ptr hb ∧ wz.heap.size ≤ hb ∧ IsTy w' hb 31 ∧ BoxAt w' hb (haC (⟨s, r.name, r.members, []⟩, (r.ma, r.mc, none, 0))))) (by kernel_rfl) (by kernel_rfl) ?h0 ?_
            case h0 => exact ⟨(Below.refl _ _).drew, fun e => (by cases e)⟩
            iterate 9 (((with_reducible refine FlowJ.pure (v := ?_) ?_ ?_ ?_ ?_); rotate_left 1; (focus (intro _; rfl)); (focus (intro β L' w' hJ hat; (try dsimp only at hJ); (try dsimp only); simpa only [setL, Nat.reduceEqDiff, if_false] using hJ)); (focus (intro β L' w' hJ hat; (try dsimp only at hJ); (have y0 := cell_later hJ.1 hscz; have y6 := cell_later hJ.1 k6; have y8 := cell_later hJ.1 k8); go_simp; (try with_reducible rfl); done)); (try simp only [Act.put, List.setIfInBounds_toArray, List.set_cons_zero, List.set_cons_succ, Nat.reduceAdd])))
            ((with_reducible refine FlowJ.ghost ?_ ?_ ?_); (focus (intro _; rfl)); (focus (intro β L' w' hJ hat K' hK; (try dsimp only at hJ); (have un := hat.un; simp only [un] at hJ; go_simp; refine hK.out _ _ ?_; simp only [updG, setL, if_true]; refine ⟨hJ.1.alloc hJ.1.size _, fun _ => ⟨w'.heap.size, rfl, hJ.1.size, ⟨_, heap_alloc_new w' _⟩, ?_⟩⟩; have hbn := BoxAt.new w' [.string s, .string r.name, .slice r.ma ml r.mc, .slice none 0 0] 31; rw [HML.out] at hbn ⊢; exact hbn))); (try simp only [Act.put, List.setIfInBounds_toArray, List.set_cons_zero, List.set_cons_succ, Nat.reduceAdd]))
            refine FlowJ.pureG (v := fun β => β 9) (fun β k b hk => ?_) (fun β b => rfl) (fun _ => rfl) (fun β L' w' hJ hat => by simpa only [setL, Nat.reduceEqDiff, if_false] using hJ) (fun β L' w' hJ hat => ?_) ?_
            · have : updG β k b 9 = β 9 := updG_ne β b fun e => by subst e; exact Bool.false_ne_true (hk.symm.trans (by kernel_rfl))
              simp only [this]
            · go_simp
            (try simp only [Act.put, List.setIfInBounds_toArray, List.set_cons_zero, List.set_cons_succ, Nat.reduceAdd])
            refine FlowJ.stop ?_
            dsimp only
            intro β w1 hJ
            obtain ⟨hbw1, hbx⟩ := hJ
            obtain ⟨hb, e9, hb1, hb2, hb3⟩ := hbx trivial
            rw [e9]
            have A1 := Lib.hid (AZ.out.later hbw1)
            have HB2 := Lib.hid hb2
            have HB3 := Lib.hid hb3
            have HNE := Lib.hid (show ∀ x ∈ L, x.2 ≠ hb from fun x hx => by have := (AZ.out.blk x hx).2.1.lt; omega)
            obtain ⟨q0, f0⟩ := hb3 0 _ rfl
            have hS1 : S ≤ hb := Nat.le_trans AZ.out.sz hb1
            have cT := A1.out.cT
            have fT := A1.out.fT
            have hown := A1.out.own
            obtain ⟨es, clock, hmap, hborn, hes⟩ := A1.out.mp
            have HBORN := Lib.hid hborn
            have HES := Lib.hid hes
            have HMAP := Lib.hid hmap
            have hMl : R + 1 + 1 < w1.heap.size := (Array.getElem?_eq_some_iff.1 hmap).1
            have hTl : R + 1 < w1.heap.size := World.block_lt_of_cell? _ _ cT
            have hvo : ∀ g, v.ownBlock = some g → S ≤ g ∧ IsTy w1 g 62 := fun g hg => ⟨(hown.lt g hg).1, hown.ty hg⟩
            have HVO := Lib.hid hvo
            have HVT := Lib.hid (show v.ownBlock ≠ some (R + 1) from fun e => by have := (hvo _ e).1; omega)
            have HVM := Lib.hid (show v.ownBlock ≠ some (R + 1 + 1) from fun e => by have := (hvo _ e).1; omega)
            have HVH := Lib.hid (show ¬ (hb = R + 1 + 1 ∨ hb = R + 1 ∨ v.ownBlock = some hb) from fun e => by
              rcases e with e | e | e
              · omega
              · omega
              · exact absurd rfl (hb2.ne (hvo _ e).2 (by decide)))
            have HKN := Lib.hid (show ∀ y ∈ es.toList, y.key ≠ .string s from fun y hy e => by
              obtain ⟨x, hx, e1, _⟩ := mapB_keys hes hy
              rw [e] at e1
              exact HNO.out x hx (by simpa using e1.symm))
            have HKK := Lib.hid (show ∀ e ∈ es.toList, ∃ l, keyOf Try.prog 9 e.key = some l from fun y hy => by
              obtain ⟨x, hx, e1, _⟩ := mapB_keys hes hy
              rw [e1]
              exact key_str _ (HIDS.out x hx))
            have HST := Lib.hid (ApJ.start (E := EP) (X := fun k => k = R + 1 + 1) (x := hb) (bp := undef) (bq := undef) cT fT hown)
            have HVL := Lib.hid (show ∀ g, v.ownBlock = some g → g < w1.heap.size from fun g hg => (hown.lt g hg).2)
            have hLl : L.length ≤ 100000 := by
              have h1 := congrArg List.length HRUN.out
              have h2 := runH_len ((ids.zip l).take i)
              rw [List.length_map] at h1
              rw [List.length_take] at h2
              omega
            obtain ⟨LB, hLB⟩ : ∃ LB, LB = L.map (·.2) := ⟨_, rfl⟩
            rw [← hLB] at HST
            have HLB := Lib.hid hLB
            have hLBl : LB.length ≤ 100000 := by rw [hLB, List.length_map]; exact hLl
            clear hbx hb2 hb3 hown hborn hes hmap hvo hLB k0 k1 k5 k6 k8 hscz hlook HRZ cT fT
            go_upto_region 13 with fail
            refine wp_flow_j (fun β L' w' => ApJ EP (fun k => k = R + 1 + 1) w1 S (R + 1) 0 hb v LB (β 8) (β 9) (L' 8) (L' 9) (L' 13) w' ∧ w'.heap[R + 1 + 1]? = some (if L' 10 then (if L' 12 then .map (es.push ⟨.string s, ptr hb, clock⟩) (clock + 1) else .map (es.push ⟨.string s, .pointer none, clock⟩) (clock + 1)) else .map es clock)) (by kernel_rfl) (by kernel_rfl) ?h1 ?_
            case h1 => exact ⟨HST.out, HMAP.out⟩
            iterate 4 (((with_reducible refine FlowJ.pure (v := ?_) ?_ ?_ ?_ ?_); rotate_left 1; (focus (intro _; rfl)); (focus (intro β L' w' hJ hat; (try dsimp only at hJ); (try dsimp only); simpa only [setL, Nat.reduceEqDiff, if_false] using hJ)); (focus (intro β L' w' hJ hat; (try dsimp only at hJ); skip; go_simp; (try with_reducible rfl); done)); (try simp only [Act.put, List.setIfInBounds_toArray, List.set_cons_zero, List.set_cons_succ, Nat.reduceAdd])))
            ((with_reducible refine FlowJ.pure (v := ?_) ?_ ?_ ?_ ?_); rotate_left 1; (focus (intro _; rfl)); (focus (intro β L' w' hJ hat; (try dsimp only at hJ); (try dsimp only); simpa only [setL, Nat.reduceEqDiff, if_false] using hJ)); (focus (intro β L' w' hJ hat; (try dsimp only at hJ); (have y0 := hJ.1.chg.cell q0 HVH.out); go_simp; (try with_reducible rfl); done)); (try simp only [Act.put, List.setIfInBounds_toArray, List.set_cons_zero, List.set_cons_succ, Nat.reduceAdd]))
            ((with_reducible refine FlowJ.pure (v := ?_) ?_ ?_ ?_ ?_); rotate_left 1; (focus (intro _; rfl)); (focus (intro β L' w' hJ hat; (try dsimp only at hJ); (try dsimp only); simpa only [setL, Nat.reduceEqDiff, if_false] using hJ)); (focus (intro β L' w' hJ hat; (try dsimp only at hJ); skip; go_simp; (try with_reducible rfl); done)); (try simp only [Act.put, List.setIfInBounds_toArray, List.set_cons_zero, List.set_cons_succ, Nat.reduceAdd]))
            ((with_reducible refine FlowJ.pure (v := ?_) ?_ ?_ ?_ ?_); rotate_left 1; (focus (intro _; rfl)); (focus (intro β L' w' hJ hat; (try dsimp only at hJ); (try dsimp only); simpa only [setL, Nat.reduceEqDiff, if_false] using hJ)); (focus (intro β L' w' hJ hat; (try dsimp only at hJ); ((have n13 := hat.not (j := 13) (by kernel_rfl)); have yc := hJ.1.cell; simp only [n13, Bool.false_eq_true, if_false] at yc); go_simp; (try with_reducible rfl); done)); (try simp only [Act.put, List.setIfInBounds_toArray, List.set_cons_zero, List.set_cons_succ, Nat.reduceAdd]))
            ((with_reducible refine FlowJ.pure (v := ?_) ?_ ?_ ?_ ?_); rotate_left 1; (focus (intro _; rfl)); (focus (intro β L' w' hJ hat; (try dsimp only at hJ); (try dsimp only); simpa only [setL, Nat.reduceEqDiff, if_false] using hJ)); (focus (intro β L' w' hJ hat; (try dsimp only at hJ); skip; go_simp; (try with_reducible rfl); done)); (try simp only [Act.put, List.setIfInBounds_toArray, List.set_cons_zero, List.set_cons_succ, Nat.reduceAdd]))
            ((with_reducible refine FlowJ.ghost ?_ ?_ ?_); (focus (intro _; rfl)); (focus (intro β L' w' hJ hat K' hK; (try dsimp only at hJ); ((have n9 := hat.not (j := 9) (by kernel_rfl)); (have n13 := hat.not (j := 13) (by kernel_rfl)); have un := hat.un; simp only [un, n9, n13] at hJ; go_simp; refine hK.out _ _ ?_; simp only [updG, setL, Nat.reduceEqDiff, if_true, if_false, n9, n13]; refine ⟨hJ.1.made, ?_⟩; rw [((Below.refl w'.heap.size w').alloc (Nat.le_refl _) _).block (R + 1 + 1) (by have := hJ.1.chg.size; omega)]; exact hJ.2))); (try simp only [Act.put, List.setIfInBounds_toArray, List.set_cons_zero, List.set_cons_succ, Nat.reduceAdd]))
            ((with_reducible refine FlowJ.ghost ?_ ?_ ?_); (focus (intro _; rfl)); (focus (intro β L' w' hJ hat K' hK; (try dsimp only at hJ); ((have p8 := hat.pre 8 (by kernel_rfl)); (have n13 := hat.not (j := 13) (by kernel_rfl)); have un := hat.un; simp only [un, p8, n13] at hJ; obtain ⟨nb, eb, hnb, hbx⟩ := hJ.1.box rfl; obtain ⟨v', w2, hr, ho, hg, hn⟩ := El.app (E := EP) w' S v LB [hb] hJ.1.own (some ⟨nb, 0, none⟩) 1 (El.one_at hbx) (by simp; omega) (by have h1 := hJ.1.chg.size; omega) 61; refine wp_app_eq (.tmp 58) (.tmp 60) 61 rfl _ _ rfl (by show β 8 = _; exact eb) hr ?_; refine hK.out _ _ ?_; simp only [updG, setL, Nat.reduceEqDiff, if_true, if_false, p8, n13]; refine ⟨hJ.1.app HVT.out ho hg hn HVL.out, ?_⟩; rw [hg.block (R + 1 + 1) (by have := hJ.1.chg.size; omega) (fun e => HVM.out e.symm)]; exact hJ.2))); (try simp only [Act.put, List.setIfInBounds_toArray, List.set_cons_zero, List.set_cons_succ, Nat.reduceAdd]))
            ((with_reducible refine FlowJ.call (v := ?_) ?_ ?_ ?_); rotate_left 1; (focus (intro _; rfl)); (focus (intro β L' w' hJ hat K' hK; (try dsimp only at hJ); ((have n12 := hat.not (j := 12) (by kernel_rfl)); have un := hat.un; simp only [un, n12, Bool.false_eq_true, if_false] at hJ; obtain ⟨kl, hkl⟩ := key_str s hs1; have heq := run_entry_new K63 (t := 63) (e := 62) (by kernel_rfl) hJ.2 HKK.out hkl HKN.out (zeroPtr w'); go_simp; refine hK.out _ ?_; simp only [setL, Nat.reduceEqDiff, if_true, if_false, n12, Bool.false_eq_true]; exact ⟨hJ.1.other rfl hMl (by omega) HVM.out (grown_setBlock hJ.2 _), Go.ChangeMaps.heap_setBlock_same hJ.2 _⟩))); (try simp only [Act.put, List.setIfInBounds_toArray, List.set_cons_zero, List.set_cons_succ, Nat.reduceAdd]))
            ((with_reducible refine FlowJ.pure (v := ?_) ?_ ?_ ?_ ?_); rotate_left 1; (focus (intro _; rfl)); (focus (intro β L' w' hJ hat; (try dsimp only at hJ); (try dsimp only); simpa only [setL, Nat.reduceEqDiff, if_false] using hJ)); (focus (intro β L' w' hJ hat; (try dsimp only at hJ); skip; go_simp; (try with_reducible rfl); done)); (try simp only [Act.put, List.setIfInBounds_toArray, List.set_cons_zero, List.set_cons_succ, Nat.reduceAdd]))
            ((with_reducible refine FlowJ.eff ?_ ?_ ?_); (focus (intro _; rfl)); (focus (intro β L' w' hJ hat K' hK; (try dsimp only at hJ); ((have p11 := hat.pre 11 (by kernel_rfl)); have p10 := hat.down 11 10 p11 (by decide) (by kernel_rfl); have un := hat.un; simp only [un, p10, Bool.false_eq_true, if_false, if_true] at hJ; have heq := run_entryStore_new (P := Try.prog) (t := 63) (v := ptr hb) hJ.2 HBORN.out; refine wp_estore 63 (.tmp 52) (.tmp 63) (.tmp 57) rfl _ _ _ rfl rfl rfl heq ?_; refine hK.out _ ?_; simp only [setL, Nat.reduceEqDiff, if_true, if_false, p10]; exact ⟨hJ.1.other rfl hMl (by omega) HVM.out (grown_setBlock hJ.2 _), Go.ChangeMaps.heap_setBlock_same hJ.2 _⟩))); (try simp only [Act.put, Nat.reduceAdd]))
            ((with_reducible refine FlowJ.eff ?_ ?_ ?_); (focus (intro _; rfl)); (focus (intro β L' w' hJ hat K' hK; (try dsimp only at hJ); ((have p9 := hat.pre 9 (by kernel_rfl)); have p8 := hat.down 9 8 p9 (by decide) (by kernel_rfl); have un := hat.un; simp only [un, p8, p9] at hJ; have yc := hJ.1.cell; have yf := hJ.1.fro; simp only [Bool.false_eq_true, if_false] at yc; obtain ⟨oa, na, ca, e5⟩ := hJ.1.own.shape; simp only [if_true] at e5; go_simp; rw [← e5]; refine hK.out _ ?_; simp only [setL, Nat.reduceEqDiff, if_true, if_false, p8, p9]; refine ⟨hJ.1.stored HVT.out hTl, ?_⟩; rw [heap_setCell_other w' ⟨R + 1, 0, none⟩ (R + 1 + 1) _ (by show ¬ R + 1 + 1 = R + 1; omega)]; exact hJ.2))); (try simp only [Act.put, Nat.reduceAdd]))
            refine FlowJ.stop ?_
            dsimp only
            intro β2 w2 hJ
            have HJ := Lib.hid hJ
            have hrs := HRW.out
            have A2 := Lib.hid (A1.out.push (s := s) (r := r) (by omega) (by omega) (by omega) (by omega) HNE.out hS1 HB2.out HB3.out HRM.out HRF.out.ml HRL.out (by have := HJ.out.1; rw [HLB.out] at this; exact this) ⟨_, _, HJ.out.2, fun y hy => by
              simp only [Array.toList_push, List.mem_append, List.mem_singleton] at hy
              rcases hy with hy | rfl
              · have := HBORN.out y hy; omega
              · show clock < clock + 1; omega, by
              simp only [Array.toList_push, List.map_append, HES.out]
              rfl⟩)
            have HRU := Lib.hid (show (L ++ [((⟨⟨s, r.name, r.members, []⟩, (r.ma, r.mc, none, 0)⟩ : HA), hb)]).map (fun x : HA × Nat => x.1.1) = runH ((ids.zip l).take (i + 1)) from by
              rw [HTK.out, runH_snoc, ← HRUN.out, step_new H5.out HM.out (fun y hy => by
                obtain ⟨x, hx, rfl⟩ := List.mem_map.1 hy
                exact HNO.out x hx), List.map_append]
              rfl)
            clear hJ hrs q0 f0
            go_wp2_with fail
            go_roundg (n - i)
            case measure => omega
            case rel => exact ⟨i + 1, _, β2 9, by omega, by omega, by go_num, A2.out, HRU.out⟩
      · have e5 : (r.kind == (5 : Int)) = false := by simpa using h5
        by_cases h6 : r.kind = 6
        · have H6 := Lib.hid h6
          rw [h6] at k0
          clear h5 h6 e5
          rcases AZ.out.mp.look HIDS.out r.target ht1 with ⟨x, hxL, hxs, hlook⟩ | ⟨hno, hlook⟩
          · obtain ⟨hxS, hxT, hxB⟩ := AZ.out.blk x hxL
            obtain ⟨q0, f0⟩ := hxB 0 _ rfl
            obtain ⟨q1, f1⟩ := hxB 1 _ rfl
            obtain ⟨q2, f2⟩ := hxB 2 _ rfl
            obtain ⟨q3, f3⟩ := hxB 3 _ rfl
            have hmem := AZ.out.mem x hxL
            have hmz : Ints wz x.1.2.1 x.1.1.mem := hmem.1.later AZ.out.low
            have hbk := AZ.out.bak x hxL
            obtain ⟨_, _, ebk, hbc1, hbc2, hbat, _⟩ := hbk.at
            simp only [Value.slice.injEq, true_and] at ebk
            obtain ⟨rfl, rfl⟩ := ebk
            have hbz : Ints wz x.1.2.2.2.1 x.1.1.back := hbat.ints
            have hbl : x.1.1.back.length < 9223372036854775808 := by unfold maxLen at hbc2; omega
            have HXL := Lib.hid hxL
            have HXS := Lib.hid hxs
            have HXT := Lib.hid hxT
            have HBK := Lib.hid hbk
            have HMZ := Lib.hid hmz
            have HBZ := Lib.hid hbz
            have HC1 := Lib.hid (show ∀ wy, Ints wy x.1.2.1 x.1.1.mem → Calls Try.prog 23 #[.slice x.1.2.1 x.1.1.mem.length x.1.2.2.1, .int .i64 r.author] wy (RetS (.bool (decide (r.author ∈ x.1.1.mem))) wy) from fun wy h => contains_any _ _ _ _ wy h hmem.2.1)
            have HC2 := Lib.hid (show ∀ wy, Ints wy x.1.2.2.2.1 x.1.1.back → Calls Try.prog 23 #[.slice x.1.2.2.2.1 x.1.1.back.length x.1.2.2.2.2, .int .i64 r.author] wy (RetS (.bool (decide (r.author ∈ x.1.1.back))) wy) from fun wy h => contains_any _ _ _ _ wy h hbl)
            have hS : ∀ wy : World, Below wz.heap.size wz wy → (wy.cell? ⟨q, 1, none⟩ = some (.int .i64 r.author) ∧ wy.cell? ⟨x.2, 2, none⟩ = some (.slice x.1.2.1 x.1.1.mem.length x.1.2.2.1) ∧ wy.cell? ⟨x.2, 3, none⟩ = some (.slice x.1.2.2.2.1 x.1.1.back.length x.1.2.2.2.2)) ∧ Ints wy x.1.2.1 x.1.1.mem ∧ Ints wy x.1.2.2.2.1 x.1.1.back := fun wy hy => ⟨⟨cell_later hy k1, cell_later hy q2, cell_later hy q3⟩, HMZ.out.later hy, HBZ.out.later hy⟩
            have huq : Uniq (L.map (·.1.1)) := by rw [HRUN.out]; exact Uniq.run _
            have HUQ := Lib.hid huq
            clear hmem hmz hbk hbat hbz hbc1 hbc2 hxB hxL hxs hxT huq
            cases hd1 : decide (r.author ∈ x.1.1.mem)
            · rw [hd1] at HC1
              have HD1 := Lib.hid (of_decide_eq_false hd1)
              clear hd1
              go_upto_region 16 with fail
              refine wp_flow_s [] [] (by kernel_rfl) (by kernel_rfl) (by kernel_rfl) ?_
              repeat (first | ((with_reducible refine Flow.pure hS StayG.nil (v := ?_) ?_ ?_ ?_ ?_); rotate_left 1; (focus kernel_rfl); (focus (intro _; rfl)); (focus (intro β wx hSw; (try dsimp only at hSw); go_simp; (try with_reducible rfl); done)); (try simp only [Act.put, List.setIfInBounds_toArray, List.set_cons_zero, List.set_cons_succ, Nat.reduceAdd])) | ((with_reducible refine Flow.skip StayG.nil ?_ ?_ ?_); (focus kernel_rfl); (focus (intro _; rfl)); (try simp only [Act.put, List.setIfInBounds_toArray, List.set_cons_zero, List.set_cons_succ, Nat.reduceAdd])))
              ((with_reducible refine Flow.call hS StayG.nil (v := ?_) ?_ ?_ ?_ ?_); rotate_left 1; (focus kernel_rfl); (focus (intro _; rfl)); (focus (intro β L wx hI hat hSw K' hK; (try dsimp only at hSw); go_simp; go_at_call 23; refine Calls.mono (HC1.out _ hSw.2.1) ?_; rintro e w' ⟨rfl, rfl⟩; exact hK.out _ (Below.refl _ _))); (try simp only [Act.put, List.setIfInBounds_toArray, List.set_cons_zero, List.set_cons_succ, Nat.reduceAdd]))
              repeat (first | ((with_reducible refine Flow.pure hS StayG.nil (v := ?_) ?_ ?_ ?_ ?_); rotate_left 1; (focus kernel_rfl); (focus (intro _; rfl)); (focus (intro β wx hSw; (try dsimp only at hSw); go_simp; (try with_reducible rfl); done)); (try simp only [Act.put, List.setIfInBounds_toArray, List.set_cons_zero, List.set_cons_succ, Nat.reduceAdd])) | ((with_reducible refine Flow.skip StayG.nil ?_ ?_ ?_); (focus kernel_rfl); (focus (intro _; rfl)); (try simp only [Act.put, List.setIfInBounds_toArray, List.set_cons_zero, List.set_cons_succ, Nat.reduceAdd])))
              ((with_reducible refine Flow.stop ?_); dsimp only; intro β w8 hI8)
              have A8 := Lib.hid (AZ.out.later hI8.below)
              have HUN := Lib.hid (show L.map (·.1.1) = runH ((ids.zip l).take (i + 1)) from by
                rw [HTK.out, runH_snoc, ← HRUN.out, step_back H6.out, backH_same]
                rintro k hk ⟨h1, h2, _⟩
                obtain ⟨y, hy, rfl⟩ := List.mem_map.1 hk
                obtain rfl := backH_at HUQ.out HXL.out hy (h1.trans HXS.out.symm)
                exact HD1.out h2)
              clear hS hI8 k0 k1 k5 k6 k8 hscz hlook q0 q1 q2 q3 f0 f1 f2 f3
              go_wp2_with fail
              go_roundg (n - i)
              case measure => omega
              case rel => exact ⟨i + 1, L, v, by omega, by omega, by go_num, A8.out, HUN.out⟩
            · rw [hd1] at HC1
              have HD1 := Lib.hid (of_decide_eq_true hd1)
              clear hd1
              cases hd2 : decide (r.author ∈ x.1.1.back)
              · rw [hd2] at HC2
                have HD2 := Lib.hid (of_decide_eq_false hd2)
                clear hd2
                go_upto_region 16 with fail
                refine wp_flow_s [] [] (by kernel_rfl) (by kernel_rfl) (by kernel_rfl) ?_
                repeat (first | ((with_reducible refine Flow.pure hS StayG.nil (v := ?_) ?_ ?_ ?_ ?_); rotate_left 1; (focus kernel_rfl); (focus (intro _; rfl)); (focus (intro β wx hSw; (try dsimp only at hSw); go_simp; (try with_reducible rfl); done)); (try simp only [Act.put, List.setIfInBounds_toArray, List.set_cons_zero, List.set_cons_succ, Nat.reduceAdd])) | ((with_reducible refine Flow.skip StayG.nil ?_ ?_ ?_); (focus kernel_rfl); (focus (intro _; rfl)); (try simp only [Act.put, List.setIfInBounds_toArray, List.set_cons_zero, List.set_cons_succ, Nat.reduceAdd])))
                ((with_reducible refine Flow.call hS StayG.nil (v := ?_) ?_ ?_ ?_ ?_); rotate_left 1; (focus kernel_rfl); (focus (intro _; rfl)); (focus (intro β L wx hI hat hSw K' hK; (try dsimp only at hSw); go_simp; go_at_call 23; refine Calls.mono (HC1.out _ hSw.2.1) ?_; rintro e w' ⟨rfl, rfl⟩; exact hK.out _ (Below.refl _ _))); (try simp only [Act.put, List.setIfInBounds_toArray, List.set_cons_zero, List.set_cons_succ, Nat.reduceAdd]))
                repeat (first | ((with_reducible refine Flow.pure hS StayG.nil (v := ?_) ?_ ?_ ?_ ?_); rotate_left 1; (focus kernel_rfl); (focus (intro _; rfl)); (focus (intro β wx hSw; (try dsimp only at hSw); go_simp; (try with_reducible rfl); done)); (try simp only [Act.put, List.setIfInBounds_toArray, List.set_cons_zero, List.set_cons_succ, Nat.reduceAdd])) | ((with_reducible refine Flow.skip StayG.nil ?_ ?_ ?_); (focus kernel_rfl); (focus (intro _; rfl)); (try simp only [Act.put, List.setIfInBounds_toArray, List.set_cons_zero, List.set_cons_succ, Nat.reduceAdd])))
                ((with_reducible refine Flow.call hS StayG.nil (v := ?_) ?_ ?_ ?_ ?_); rotate_left 1; (focus kernel_rfl); (focus (intro _; rfl)); (focus (intro β L wx hI hat hSw K' hK; (try dsimp only at hSw); go_simp; go_at_call 23; refine Calls.mono (HC2.out _ hSw.2.2) ?_; rintro e w' ⟨rfl, rfl⟩; exact hK.out _ (Below.refl _ _))); (try simp only [Act.put, List.setIfInBounds_toArray, List.set_cons_zero, List.set_cons_succ, Nat.reduceAdd]))
                repeat (first | ((with_reducible refine Flow.pure hS StayG.nil (v := ?_) ?_ ?_ ?_ ?_); rotate_left 1; (focus kernel_rfl); (focus (intro _; rfl)); (focus (intro β wx hSw; (try dsimp only at hSw); go_simp; (try with_reducible rfl); done)); (try simp only [Act.put, List.setIfInBounds_toArray, List.set_cons_zero, List.set_cons_succ, Nat.reduceAdd])) | ((with_reducible refine Flow.skip StayG.nil ?_ ?_ ?_); (focus kernel_rfl); (focus (intro _; rfl)); (try simp only [Act.put, List.setIfInBounds_toArray, List.set_cons_zero, List.set_cons_succ, Nat.reduceAdd])))
                ((with_reducible refine Flow.stop ?_); dsimp only; intro β w8 hI8)
                have hb8 := hI8.below
                have A8 := Lib.hid (AZ.out.later hb8)
                have hx8 := HXL.out
                have HQN := Lib.hid (show ¬ (False ∨ q = x.2 ∨ (bkV x).ownBlock = some q) from fun e => by
                  have h1 := (AI.out.blk x hx8).2.1.lt
                  have h2 := HQ.out
                  rcases e with e | e | e
                  · exact e
                  · omega
                  · have := ((AI.out.bak x hx8).lt q e).2; omega)
                have j1 := cell_later hb8 k1
                obtain ⟨hy1, hy2, hy3⟩ := A8.out.blk x hx8
                obtain ⟨j3, g3⟩ := hy3 3 _ rfl
                have hob := A8.out.bak x hx8
                have HVT := Lib.hid (show (bkV x).ownBlock ≠ some x.2 from fun e => absurd rfl ((hob.ty e).ne hy2 (by decide)))
                have HVL := Lib.hid (show ∀ g, (bkV x).ownBlock = some g → g < w8.heap.size from fun g hg => (hob.lt g hg).2)
                have hxl8 := hy2.lt
                have HST := Lib.hid (ApJ.start (E := EI) (X := fun _ => False) (x := r.author) (bp := undef) (bq := undef) j3 g3 hob)
                have hsz8 := A8.out.sz
                have hbkl : x.1.1.back.length ≤ 1000000 := by
                  have h1 := runH_back ((ids.zip l).take i) x.1.1 (by rw [← HRUN.out]; exact List.mem_map.2 ⟨x, hx8, rfl⟩)
                  rw [List.length_take] at h1
                  omega
                clear hS hI8 hb8 k0 k1 k5 k6 k8 hscz hlook q0 q1 q2 q3 f0 f1 f2 f3 hy1 hy2 hy3 j3 g3 hob
                go_upto_region 17 with fail
                refine wp_flow_j (fun β L' w' => ApJ EI (fun _ => False) w8 S x.2 3 r.author (bkV x) x.1.1.back (β 7) (β 8) (L' 7) (L' 8) (L' 11) w') (by kernel_rfl) (by kernel_rfl) ?h2 ?_
                case h2 => exact HST.out
                iterate 4 (((with_reducible refine FlowJ.pure (v := ?_) ?_ ?_ ?_ ?_); rotate_left 1; (focus (intro _; rfl)); (focus (intro β L' w' hJ hat; (try dsimp only at hJ); (try dsimp only); simpa only [setL, Nat.reduceEqDiff, if_false] using hJ)); (focus (intro β L' w' hJ hat; (try dsimp only at hJ); skip; go_simp; (try with_reducible rfl); done)); (try simp only [Act.put, List.setIfInBounds_toArray, List.set_cons_zero, List.set_cons_succ, Nat.reduceAdd])))
                ((with_reducible refine FlowJ.pure (v := ?_) ?_ ?_ ?_ ?_); rotate_left 1; (focus (intro _; rfl)); (focus (intro β L' w' hJ hat; (try dsimp only at hJ); (try dsimp only); simpa only [setL, Nat.reduceEqDiff, if_false] using hJ)); (focus (intro β L' w' hJ hat; (try dsimp only at hJ); ((have n11 := hat.not (j := 11) (by kernel_rfl)); have yc := hJ.cell; simp only [n11, Bool.false_eq_true, if_false] at yc); go_simp; (try with_reducible rfl); done)); (try simp only [Act.put, List.setIfInBounds_toArray, List.set_cons_zero, List.set_cons_succ, Nat.reduceAdd]))
                iterate 2 (((with_reducible refine FlowJ.pure (v := ?_) ?_ ?_ ?_ ?_); rotate_left 1; (focus (intro _; rfl)); (focus (intro β L' w' hJ hat; (try dsimp only at hJ); (try dsimp only); simpa only [setL, Nat.reduceEqDiff, if_false] using hJ)); (focus (intro β L' w' hJ hat; (try dsimp only at hJ); (have y1 := hJ.chg.cell j1 HQN.out); go_simp; (try with_reducible rfl); done)); (try simp only [Act.put, List.setIfInBounds_toArray, List.set_cons_zero, List.set_cons_succ, Nat.reduceAdd])))
                ((with_reducible refine FlowJ.ghost ?_ ?_ ?_); (focus (intro _; rfl)); (focus (intro β L' w' hJ hat K' hK; (try dsimp only at hJ); ((have n8 := hat.not (j := 8) (by kernel_rfl)); (have n11 := hat.not (j := 11) (by kernel_rfl)); have un := hat.un; simp only [un, n8, n11] at hJ; go_simp; refine hK.out _ _ ?_; simp only [updG, setL, Nat.reduceEqDiff, if_true, if_false, n8, n11]; exact hJ.made))); (try simp only [Act.put, List.setIfInBounds_toArray, List.set_cons_zero, List.set_cons_succ, Nat.reduceAdd]))
                ((with_reducible refine FlowJ.ghost ?_ ?_ ?_); (focus (intro _; rfl)); (focus (intro β L' w' hJ hat K' hK; (try dsimp only at hJ); ((have p7 := hat.pre 7 (by kernel_rfl)); (have n11 := hat.not (j := 11) (by kernel_rfl)); have un := hat.un; simp only [un, p7, n11] at hJ; obtain ⟨nb, eb, hnb, hbx⟩ := hJ.box rfl; obtain ⟨v', w2, hr, ho, hg, hn⟩ := El.app (E := EI) w' S (bkV x) x.1.1.back [r.author] hJ.own (some ⟨nb, 0, none⟩) 1 (El.one_at hbx) (by simp; omega) (by have h1 := hJ.chg.size; omega) 29; refine wp_app_eq (.tmp 95) (.tmp 98) 29 rfl _ _ rfl (by show β 7 = _; exact eb) hr ?_; refine hK.out _ _ ?_; simp only [updG, setL, Nat.reduceEqDiff, if_true, if_false, p7, n11]; exact hJ.app HVT.out ho hg hn HVL.out))); (try simp only [Act.put, List.setIfInBounds_toArray, List.set_cons_zero, List.set_cons_succ, Nat.reduceAdd]))
                iterate 2 (((with_reducible refine FlowJ.pure (v := ?_) ?_ ?_ ?_ ?_); rotate_left 1; (focus (intro _; rfl)); (focus (intro β L' w' hJ hat; (try dsimp only at hJ); (try dsimp only); simpa only [setL, Nat.reduceEqDiff, if_false] using hJ)); (focus (intro β L' w' hJ hat; (try dsimp only at hJ); skip; go_simp; (try with_reducible rfl); done)); (try simp only [Act.put, List.setIfInBounds_toArray, List.set_cons_zero, List.set_cons_succ, Nat.reduceAdd])))
                ((with_reducible refine FlowJ.eff ?_ ?_ ?_); (focus (intro _; rfl)); (focus (intro β L' w' hJ hat K' hK; (try dsimp only at hJ); ((have p8 := hat.pre 8 (by kernel_rfl)); have p7 := hat.down 8 7 p8 (by decide) (by kernel_rfl); have un := hat.un; simp only [un, p7, p8] at hJ; have yc := hJ.cell; have yf := hJ.fro; simp only [Bool.false_eq_true, if_false] at yc; obtain ⟨oa, na, ca, e5⟩ := hJ.own.shape; simp only [if_true] at e5; go_simp; rw [← e5]; refine hK.out _ ?_; simp only [setL, Nat.reduceEqDiff, if_true, if_false, p7, p8]; exact hJ.stored HVT.out hxl8))); (try simp only [Act.put, Nat.reduceAdd]))
                refine FlowJ.stop ?_
                dsimp only
                intro β2 w2 hJ
                have hJo := hJ.own
                simp only [if_true] at hJo
                obtain ⟨ba, bc, e8, _⟩ := hJo.at
                have hrs := HRW.out
                have A2 := Lib.hid (A8.out.upd (by omega) (by omega) (by omega) (by omega) HXL.out hJ e8)
                have HRU := Lib.hid (show (updL L x r.author ba bc).map (·.1.1) = runH ((ids.zip l).take (i + 1)) from by
                  rw [HTK.out, runH_snoc, ← HRUN.out, step_back H6.out, backH_upd HUQ.out A8.out.nd HXL.out HXS.out HD1.out HD2.out])
                clear hJ hJo e8 hrs j1
                go_wp2_with fail
                go_roundg (n - i)
                case measure => omega
                case rel => exact ⟨i + 1, _, v, by omega, by omega, by go_num, A2.out, HRU.out⟩
              · rw [hd2] at HC2
                have HD2 := Lib.hid (of_decide_eq_true hd2)
                clear hd2
                go_upto_region 16 with fail
                refine wp_flow_s [] [] (by kernel_rfl) (by kernel_rfl) (by kernel_rfl) ?_
                repeat (first | ((with_reducible refine Flow.pure hS StayG.nil (v := ?_) ?_ ?_ ?_ ?_); rotate_left 1; (focus kernel_rfl); (focus (intro _; rfl)); (focus (intro β wx hSw; (try dsimp only at hSw); go_simp; (try with_reducible rfl); done)); (try simp only [Act.put, List.setIfInBounds_toArray, List.set_cons_zero, List.set_cons_succ, Nat.reduceAdd])) | ((with_reducible refine Flow.skip StayG.nil ?_ ?_ ?_); (focus kernel_rfl); (focus (intro _; rfl)); (try simp only [Act.put, List.setIfInBounds_toArray, List.set_cons_zero, List.set_cons_succ, Nat.reduceAdd])))
                ((with_reducible refine Flow.call hS StayG.nil (v := ?_) ?_ ?_ ?_ ?_); rotate_left 1; (focus kernel_rfl); (focus (intro _; rfl)); (focus (intro β L wx hI hat hSw K' hK; (try dsimp only at hSw); go_simp; go_at_call 23; refine Calls.mono (HC1.out _ hSw.2.1) ?_; rintro e w' ⟨rfl, rfl⟩; exact hK.out _ (Below.refl _ _))); (try simp only [Act.put, List.setIfInBounds_toArray, List.set_cons_zero, List.set_cons_succ, Nat.reduceAdd]))
                repeat (first | ((with_reducible refine Flow.pure hS StayG.nil (v := ?_) ?_ ?_ ?_ ?_); rotate_left 1; (focus kernel_rfl); (focus (intro _; rfl)); (focus (intro β wx hSw; (try dsimp only at hSw); go_simp; (try with_reducible rfl); done)); (try simp only [Act.put, List.setIfInBounds_toArray, List.set_cons_zero, List.set_cons_succ, Nat.reduceAdd])) | ((with_reducible refine Flow.skip StayG.nil ?_ ?_ ?_); (focus kernel_rfl); (focus (intro _; rfl)); (try simp only [Act.put, List.setIfInBounds_toArray, List.set_cons_zero, List.set_cons_succ, Nat.reduceAdd])))
                ((with_reducible refine Flow.call hS StayG.nil (v := ?_) ?_ ?_ ?_ ?_); rotate_left 1; (focus kernel_rfl); (focus (intro _; rfl)); (focus (intro β L wx hI hat hSw K' hK; (try dsimp only at hSw); go_simp; go_at_call 23; refine Calls.mono (HC2.out _ hSw.2.2) ?_; rintro e w' ⟨rfl, rfl⟩; exact hK.out _ (Below.refl _ _))); (try simp only [Act.put, List.setIfInBounds_toArray, List.set_cons_zero, List.set_cons_succ, Nat.reduceAdd]))
                repeat (first | ((with_reducible refine Flow.pure hS StayG.nil (v := ?_) ?_ ?_ ?_ ?_); rotate_left 1; (focus kernel_rfl); (focus (intro _; rfl)); (focus (intro β wx hSw; (try dsimp only at hSw); go_simp; (try with_reducible rfl); done)); (try simp only [Act.put, List.setIfInBounds_toArray, List.set_cons_zero, List.set_cons_succ, Nat.reduceAdd])) | ((with_reducible refine Flow.skip StayG.nil ?_ ?_ ?_); (focus kernel_rfl); (focus (intro _; rfl)); (try simp only [Act.put, List.setIfInBounds_toArray, List.set_cons_zero, List.set_cons_succ, Nat.reduceAdd])))
                ((with_reducible refine Flow.stop ?_); dsimp only; intro β w8 hI8)
                have A8 := Lib.hid (AZ.out.later hI8.below)
                have HUN := Lib.hid (show L.map (·.1.1) = runH ((ids.zip l).take (i + 1)) from by
                  rw [HTK.out, runH_snoc, ← HRUN.out, step_back H6.out, backH_same]
                  rintro k hk ⟨h1, _, h2⟩
                  obtain ⟨y, hy, rfl⟩ := List.mem_map.1 hk
                  obtain rfl := backH_at HUQ.out HXL.out hy (h1.trans HXS.out.symm)
                  exact h2 HD2.out)
                clear hS hI8 k0 k1 k5 k6 k8 hscz hlook q0 q1 q2 q3 f0 f1 f2 f3
                go_wp2_with fail
                go_roundg (n - i)
                case measure => omega
                case rel => exact ⟨i + 1, L, v, by omega, by omega, by go_num, A8.out, HUN.out⟩
          · have HUN := Lib.hid (show L.map (·.1.1) = runH ((ids.zip l).take (i + 1)) from by
              rw [HTK.out, runH_snoc, ← HRUN.out, step_back H6.out, backH_same]
              rintro k hk ⟨h1, _⟩
              obtain ⟨y, hy, rfl⟩ := List.mem_map.1 hk
              exact hno y hy h1)
            have hS : ∀ wy : World, Below wz.heap.size wz wy → True := fun _ _ => trivial
            clear hno
            go_upto_region 16 with fail
            refine wp_flow_s [] [] (by kernel_rfl) (by kernel_rfl) (by kernel_rfl) ?_
            repeat (first | ((with_reducible refine Flow.pure hS StayG.nil (v := ?_) ?_ ?_ ?_ ?_); rotate_left 1; (focus kernel_rfl); (focus (intro _; rfl)); (focus (intro β wx hSw; (try dsimp only at hSw); go_simp; (try with_reducible rfl); done)); (try simp only [Act.put, List.setIfInBounds_toArray, List.set_cons_zero, List.set_cons_succ, Nat.reduceAdd])) | ((with_reducible refine Flow.skip StayG.nil ?_ ?_ ?_); (focus kernel_rfl); (focus (intro _; rfl)); (try simp only [Act.put, List.setIfInBounds_toArray, List.set_cons_zero, List.set_cons_succ, Nat.reduceAdd])))
            ((with_reducible refine Flow.stop ?_); dsimp only; intro β w8 hI8)
            have A8 := Lib.hid (AZ.out.later hI8.below)
            clear hS hI8 k0 k1 k5 k6 k8 hscz hlook
            go_wp2_with fail
            go_roundg (n - i)
            case measure => omega
            case rel => exact ⟨i + 1, L, v, by omega, by omega, by go_num, A8.out, HUN.out⟩
        · have e6 : (r.kind == (6 : Int)) = false := by simpa using h6
          have HUN := Lib.hid (show L.map (·.1.1) = runH ((ids.zip l).take (i + 1)) from by
            rw [HTK.out, runH_snoc, ← HRUN.out, step_no h5 h6])
          clear h5 h6
          go_wp2_with fail
          go_roundg (n - i)
          case measure => omega
          case rel => exact ⟨i + 1, L, v, by omega, by omega, by go_num, AZ.out, HUN.out⟩
    · obtain rfl : i = n := by omega
      have cR := AI.out.cR
      have fR := AI.out.fR
      go_wp2_with fail
      obtain ⟨wd, hwd⟩ : ∃ wd, wd = wr.setCell ⟨R, 0, none⟩ (.slice none 0 0) := ⟨_, rfl⟩
      rw [← hwd]
      have hown := AI.out.own
      have cT := AI.out.cT
      have hRl : R < wr.heap.size := World.block_lt_of_cell? _ _ cR
      have same : ∀ k, k ≠ R → wd.heap[k]? = wr.heap[k]? := fun k hk => by rw [hwd]; exact heap_setCell_other wr ⟨R, 0, none⟩ k _ hk
      have dR : wd.cell? ⟨R, 0, none⟩ = some (.slice none 0 0) := by rw [hwd]; exact World.cell?_setCell_same _ _ _ cR
      have dfR : wd.frozen? ⟨R, 0, none⟩ = false := by rw [hwd, World.frozen?_setCell]; exact fR
      have dT : wd.cell? ⟨R + 1, 0, none⟩ = some v := (World.cell?_of_block (w := wr) (a := ⟨R + 1, 0, none⟩) (same _ (by show R + 1 ≠ R; omega))).trans cT
      have dow : EP.Own wd S v (L.map (·.2)) := hown.block fun g hg => same g (by have := (hown.lt g hg).1; omega)
      have dB : HoldsB wd S L := ⟨fun x hx => by
        obtain ⟨h1, h2, h3⟩ := AI.out.blk x hx
        exact ⟨h1, h2.block (same _ (by omega)), h3.block (same _ (by omega))⟩⟩
      have hszd : wd.heap.size = wr.heap.size := by rw [hwd, World.size_setCell]
      have hlowd : Below w.heap.size w wd := by rw [hwd]; exact AI.out.low.setCell (by show w.heap.size ≤ R; have := HRW.out; omega) _
      have hLl : L.length ≤ 100000 := by
        have h1 := congrArg List.length HRUN.out
        have h2 := runH_len ((ids.zip l).take i)
        rw [List.length_map] at h1
        rw [List.length_take] at h2
        omega
      refine leaves_cons (f := 22) (args := #[.pointer (some ⟨R + 1, 0, none⟩), .pointer (some ⟨R, 0, none⟩)]) (by simp) (by simp [go_sem]) ?_
      refine (alld_any L R (R + 1) S v .returning wd hLl dR dfR dT (by omega) dow dB).mono ?_
      rintro e u' w2 ⟨rfl, rfl, v', hc, ho, hch⟩
      obtain ⟨a, c, rfl, _⟩ := ho.at
      have hb2 : Below w.heap.size w w2 := hlowd.trans (hch.below hlowd.size fun k hk => by have := HRW.out; omega)
      refine ⟨.slice a (L.map (·.1)).length c, by simp [results, go_sem, hc], a, c, L.map (·.1), rfl, ?_, ho.mono hlowd.size, fun y hy => ?_, hb2⟩
      · rw [List.map_map, HD.out]
        have := HRUN.out
        rw [List.take_of_length_le (by rw [List.length_zip, HLEN.out, HN.out]; omega)] at this
        exact this
      · obtain ⟨x, hx, rfl⟩ := List.mem_map.1 hy
        obtain ⟨hm1, hm2, hm3⟩ := AI.out.mem x hx
        have hbk := AI.out.bak x hx
        have hbk2 : EI.Own w2 S (bkV x) x.1.1.back := hbk.block fun g hg => by
          have hg2 := hbk.lt g hg
          exact (hch.block g (by omega) (by show ¬ g = R; omega)).trans (same g (by omega))
        exact ⟨hm1, hm2, hm3, hbk2.mono (by have := HRW.out; omega)⟩
/-- what the laws ask of the records -/
structure Few (ids : List ByteArray) (l : List Rec) : Prop where
  n : l.length ≤ 1000
  i : ∀ s ∈ ids, s.size ≤ 1000
  t : ∀ r ∈ l, r.target.size ≤ 1000
theorem all_new (ids : List ByteArray) (l : List Rec) (ia ra : Option Addr) (ic rc : Nat) (w : World) (hI : ES.At w ia ids) (hR : ER.At w ra l) (hA : RecAll w l) (hf : Few ids l) :
    Calls Try.prog 11 #[.slice ia ids.length ic, .slice ra l.length rc] w (RetN l w (allH ids l)) := by
  by_cases h : ids.length = l.length
  · exact all_eq ids l ia ra ic rc w h hI hR hA hf.n hf.i hf.t
  · exact all_ne ids l ia ra ic rc w h
theorem all_any (ids : List ByteArray) (l : List Rec) (ia ra : Option Addr) (ic rc : Nat) (w : World) (hI : ES.At w ia ids) (hR : ER.At w ra l) (hA : RecAll w l) (hf : Few ids l) :
    Calls Try.prog 11 #[.slice ia ids.length ic, .slice ra l.length rc] w (RetH w (allH ids l)) := (all_new ids l ia ra ic rc w hI hR hA hf).mono fun _ _ h => h.h
end Go.Proofs.Ytgoomcnaemfjcaa
