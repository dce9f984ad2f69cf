


/- The judge's laws: whoever follows an accepted plan. -/
import Derived.Test.YtghdfoolieagfaaJdgAft
import Derived.Test.YtghdfoolieagfaaJdgSnd
import Derived.Deep.Cut
import Derived.Deep.CutRange
namespace Go.Proofs.Ytghdfoolieagfaa
open Go.RowKit

def U8s (w : World) (a : Option Addr) (l : List Int) : Prop := ∀ j, j < l.length → ∃ b off, a = some ⟨b, off, none⟩ ∧ w.cell? ⟨b, off + j, none⟩ = some (.int .u8 (ig l j))
theorem U8s.later {w w1 : World} {a : Option Addr} {l : List Int} (h : U8s w a l) (hb : Below w.heap.size w w1) : U8s w1 a l := fun j hj => by
  obtain ⟨b, off, ha, hc⟩ := h j hj
  exact ⟨b, off, ha, cell_later hb hc⟩
theorem info_boolZ : (Try.prog.info? 4).map (fun i => (i.zero, i.size, i.bytes)) = some (some (.bool false), 1, 1) := by kernel_rfl
theorem bools_mem {w : World} {a : Addr} {l : List Bool} (h : Bools w (some a) l) (j : Nat) (hj : j < l.length) : w.cell? (a.add j) = some (.bool (bg l j)) := by
  obtain ⟨b, off, e, hc⟩ := h j hj
  cases e
  by_cases h0 : j = 0
  · subst h0; simpa [Addr.add] using hc
  · simpa [Addr.add, h0] using hc
theorem app_bools (w : World) (B : Nat) (v : Value) (hown : w.ownsRow B 4 1 v 0 []) (a : Option Addr) (c : Nat) (l : List Bool) (hI : Bools w a l) (hl : l.length ≤ 1000000) (hB : B ≤ w.heap.size) (ty : TypeId) :
    ∃ v' w', (Builtin.append_ #[31, 31] ty #[v, .slice a l.length c]).run Try.prog w = .ok v' w' ∧ w'.ownsRow B 4 1 v' l.length (l.map Value.bool) ∧ w.grownBy w' v.ownBlock ∧ ∀ b, v'.ownBlock = some b → v.ownBlock = some b ∨ w.heap.size ≤ b := by
  obtain ⟨i0, hi, hz0, hz1, hz2⟩ := info_parts info_boolZ
  cases a with
  | some a =>
    have := run_append_at (P := Try.prog) w B 31 ty 4 i0 (.bool false) 1 1 Try.underlying31 hi hz0 hz1 hz2 rfl (by decide) v 0 [] hown a l.length c (l.map Value.bool) (by simp) (fun j u hu => by
      rw [List.getElem?_map] at hu
      obtain ⟨x, hx, rfl⟩ := Option.map_eq_some_iff.1 hu
      obtain ⟨hj, e⟩ := List.getElem?_eq_some_iff.1 hx
      rw [bools_mem hI j hj, bg_lt hj, e]) (fun u hu => by obtain ⟨x, _, rfl⟩ := List.mem_map.1 hu; rfl) (by unfold maxLen; omega) (by omega) hB
    simpa using this
  | none =>
    have h0 : l = [] := by
      cases l with
      | nil => rfl
      | cons x l => obtain ⟨_, _, e, _⟩ := hI 0 (by simp); cases e
    subst h0
    refine ⟨v, w, ?_, by simpa using hown, World.grownBy.refl _ _, fun b hb => .inl hb⟩
    rcases hown.2 with ⟨rfl, _⟩ | ⟨g, cap, cur, rfl, _⟩
    · simp [Builtin.append_, go_sem]
    · simp [Builtin.append_, go_sem]
theorem own_boolsS {w : World} {B c : Nat} {oa : Option Addr} {l : List Bool} (h : w.ownsRow B 4 1 (.slice oa l.length c) l.length (l.map Value.bool)) : BoolsS (fun b => B ≤ b) w oa l := fun j hj => by
  obtain ⟨g, c', e, hg, _⟩ := own_some h (by omega)
  simp only [Value.slice.injEq] at e
  obtain ⟨rfl, _, rfl⟩ := e
  refine ⟨g, 0, rfl, hg, ?_⟩
  rw [Nat.zero_add, h.cellAt j (by omega), List.getElem?_map, List.getElem?_eq_getElem hj, bg_lt hj]
  rfl
theorem wpList_app_eq {w w' : World} {ops : Array Oper} {rest : List Oper} {o : Oper} {a : Act} {Q : Exit → Act → World → Prop} {v' : Value} (hgd : o.guard = none) (s x : Operand) (t : TypeId)
    (ho : o.op = .call { callee := .builtin .append, args := #[s, x], argTypes := #[t, t] }) (v y : Value) (hs : a.eval s = v) (hx : a.eval x = y)
    (hr : (Builtin.append_ #[t, t] o.type #[v, y]).run Try.prog w = .ok v' w') (h : wpList Try.prog ops Q rest (a.put o.dst v') w') : wpList Try.prog ops Q (o :: rest) a w :=
  wpList_plain hgd fun _ hK => wp_app_eq s x t ho v y hs hx hr (hK _ _ h)
abbrev psF (s : Pos) (sa : Option Addr) (sc : Nat) (fa : Option Addr) (fc : Nat) : List Value := [.int .i64 s.turn, .slice sa s.starts.length sc, .slice fa s.failed.length fc, .int .i64 s.budget, .int .i64 s.choice, .int .i64 s.bound]
/-- a position that lies in a block of its own, the block w4.heap.size; its numbers lie elsewhere -/
structure SoI (w4 wr : World) (s : Pos) (sa : Option Addr) (sc : Nat) (fa : Option Addr) (fc : Nat) : Prop where
  low : Below w4.heap.size w4 wr
  lt : w4.heap.size < wr.heap.size
  box : BoxAt wr w4.heap.size (psF s sa sc fa fc)
  si : IntsS (fun b => b ≠ w4.heap.size) wr sa s.starts
  sf : BoolsS (fun b => b ≠ w4.heap.size) wr fa s.failed
theorem SoI.later {w4 wr w' : World} {s : Pos} {sa fa : Option Addr} {sc fc : Nat} (h : SoI w4 wr s sa sc fa fc) (hb : Below wr.heap.size wr w') : SoI w4 w' s sa sc fa fc :=
  ⟨h.low.trans (hb.mono h.low.size), Nat.lt_of_lt_of_le h.lt hb.size, h.box.later hb, h.si.later hb, h.sf.later hb⟩
theorem SoI.ps {w4 wr : World} {s : Pos} {sa fa : Option Addr} {sc fc : Nat} (h : SoI w4 wr s sa sc fa fc) : PsAt wr s sa fa := ⟨h.si.ints, h.sf.bools⟩
theorem SoI.put {w4 wr : World} {s x : Pos} {sa fa sa' fa' : Option Addr} {sc fc sc' fc' : Nat} (low : Below w4.heap.size w4 wr) (lt : w4.heap.size < wr.heap.size) (box : BoxAt wr w4.heap.size (psF s sa sc fa fc)) (hi : IntsS (fun b => b ≠ w4.heap.size) wr sa' x.starts) (hf : BoolsS (fun b => b ≠ w4.heap.size) wr fa' x.failed) :
    SoI w4 (wr.setCells w4.heap.size 0 (psF x sa' sc' fa' fc')) x sa' sc' fa' fc' :=
  ⟨below_setCells _ _ _ _ low (Nat.le_refl _), by rw [setCells_heap]; exact lt, box.stored rfl, hi.grown (grown_setCells _ _ _ _) (fun b hb e => hb (Option.some.inj e).symm), hf.grown (grown_setCells _ _ _ _) (fun b hb e => hb (Option.some.inj e).symm)⟩
theorem IntsS.lt {S : Nat → Prop} {w : World} {a : Option Addr} {l : List Int} (h : IntsS S w a l) : IntsS (fun b => S b ∧ b < w.heap.size) w a l := fun j hj => by
  obtain ⟨b, off, e, h1, hc⟩ := h j hj
  exact ⟨b, off, e, ⟨h1, World.block_lt_of_cell? _ _ hc⟩, hc⟩
/-- one vehicle fails -/
theorem SoI.hit {w4 w5 w2 : World} {s : Pos} {sa fa : Option Addr} {sc fc q ns gb gc : Nat} (h5 : SoI w4 w5 s sa sc fa fc) (h2 : SoI w4 w2 s sa sc fa fc) (hb : Below w5.heap.size w5 w2) (hg1 : w5.heap.size ≤ gb) (hfl : s.failed.length = ns)
    (ho : (w2.setCell ⟨gb, q, none⟩ (.bool true)).ownsRow w5.heap.size 4 1 (.slice (some ⟨gb, 0, none⟩) ns gc) ns ((s.failed.map Value.bool).set q (.bool true))) (hg : w2.grownBy (w2.setCell ⟨gb, q, none⟩ (.bool true)) (some gb)) :
    SoI w4 ((w2.setCell ⟨gb, q, none⟩ (.bool true)).setCells w4.heap.size 0 [.int .i64 s.turn, .slice sa s.starts.length sc, .slice (some ⟨gb, 0, none⟩) ns gc, .int .i64 (s.budget - 1), .int .i64 0, .int .i64 0]) ⟨s.turn, s.starts, s.failed.set q true, s.budget - 1, 0, 0⟩ sa sc (some ⟨gb, 0, none⟩) gc := by
  have hlt := h5.lt
  have hns : (s.failed.set q true).length = ns := by rw [List.length_set]; exact hfl
  have := SoI.put (s := s) (x := ⟨s.turn, s.starts, s.failed.set q true, s.budget - 1, 0, 0⟩) (sa' := sa) (fa' := some ⟨gb, 0, none⟩) (sc' := sc) (fc' := gc) (wr := w2.setCell ⟨gb, q, none⟩ (.bool true)) (h2.low.setCell (by show w4.heap.size ≤ gb; omega) _) (by rw [World.size_setCell]; exact h2.lt) (h2.box.grown' hg (fun e => by have := Option.some.inj e; omega))
    (((h5.si.lt.later hb).grown hg (fun b hb e => by have h1 := Option.some.inj e; have h2 := hb.2; omega)).mono fun b hb => hb.1)
    ((own_boolsS (B := w5.heap.size) (c := gc) (l := s.failed.set q true) (by rw [List.map_set, hns]; exact ho)).mono fun b (hb : w5.heap.size ≤ b) => by omega)
  rw [show psF ⟨s.turn, s.starts, s.failed.set q true, s.budget - 1, 0, 0⟩ sa sc (some ⟨gb, 0, none⟩) gc = [.int .i64 s.turn, .slice sa s.starts.length sc, .slice (some ⟨gb, 0, none⟩) ns gc, .int .i64 (s.budget - 1), .int .i64 0, .int .i64 0] by unfold psF; simp only [hns]] at this
  exact this
theorem SoI.store {w4 wr : World} {s x : Pos} {sa fa sa' fa' : Option Addr} {sc fc sc' fc' : Nat} (h : SoI w4 wr s sa sc fa fc) (hi : IntsS (fun b => b ≠ w4.heap.size) wr sa' x.starts) (hf : BoolsS (fun b => b ≠ w4.heap.size) wr fa' x.failed) :
    SoI w4 (wr.setCells w4.heap.size 0 (psF x sa' sc' fa' fc')) x sa' sc' fa' fc' :=
  ⟨below_setCells _ _ _ _ h.low (Nat.le_refl _), by rw [setCells_heap]; exact h.lt, h.box.stored rfl, hi.grown (grown_setCells _ _ _ _) (fun b hb e => hb (Option.some.inj e).symm), hf.grown (grown_setCells _ _ _ _) (fun b hb e => hb (Option.some.inj e).symm)⟩
set_option maxRecDepth 100000 in
set_option maxHeartbeats 4000000 in
theorem sound_no (g : Gm) (sa da pa : Option Addr) (sc dc pc : Nat) (plan : List Pos) (pv : Nat → Value) (bound : Int) (ra : Option Addr) (rl rc : Nat) (w : World) (hG : GmAt w g sa da) (hP : PlanAt w pa plan pv) (hf : ¬ FewOk g plan 300) :
    Calls Try.prog 4 #[gmV g sa sc da dc, .slice pa plan.length pc, .int .i64 bound, .slice ra rl rc] w (RetB (.bool true) w) := by
  have HF := Lib.hid (fewB_no hf)
  go_enter Try.func4, Try.ntmps4
  go_wp2_with fail
  refine Calls.mono (head_any _) ?_
  rintro e w1 ⟨rfl, hb1⟩; have hs1 := hb1.size; (try simp at hs1)
  have x0 : w1.cell? ⟨w.heap.size, 0, none⟩ = some (.slice sa g.starts.length sc) := cell_later hb1 (by first | assumption | (simp [go_sem, *]; done) | exact cell_later' (by assumption) (by repeat (first | exact Below.refl _ _ | assumption | refine Below.drew ?_ | refine below_drewN ?_ _ | refine Below.alloc ?_ (by first | omega | (simp; done) | (simp; omega)) _ | refine Below.setCell ?_ (by first | omega | (simp; done) | (simp; omega)) _ | refine Below.trans ?_ (Below.mono (by assumption) (by first | omega | (simp; done) | (simp; omega))))))
  have x1 : w1.cell? ⟨w.heap.size, 1, none⟩ = some (.slice da g.deps.length dc) := cell_later hb1 (by first | assumption | (simp [go_sem, *]; done) | exact cell_later' (by assumption) (by repeat (first | exact Below.refl _ _ | assumption | refine Below.drew ?_ | refine below_drewN ?_ _ | refine Below.alloc ?_ (by first | omega | (simp; done) | (simp; omega)) _ | refine Below.setCell ?_ (by first | omega | (simp; done) | (simp; omega)) _ | refine Below.trans ?_ (Below.mono (by assumption) (by first | omega | (simp; done) | (simp; omega))))))
  have x2 : w1.cell? ⟨w.heap.size, 2, none⟩ = some (.int .i64 g.budget) := cell_later hb1 (by first | assumption | (simp [go_sem, *]; done) | exact cell_later' (by assumption) (by repeat (first | exact Below.refl _ _ | assumption | refine Below.drew ?_ | refine below_drewN ?_ _ | refine Below.alloc ?_ (by first | omega | (simp; done) | (simp; omega)) _ | refine Below.setCell ?_ (by first | omega | (simp; done) | (simp; omega)) _ | refine Below.trans ?_ (Below.mono (by assumption) (by first | omega | (simp; done) | (simp; omega))))))
  have hbw : Below w.heap.size w w1 := (by repeat (first | exact Below.refl _ _ | assumption | refine Below.drew ?_ | refine below_drewN ?_ _ | refine Below.alloc ?_ (by first | omega | (simp; done) | (simp; omega)) _ | refine Below.setCell ?_ (by first | omega | (simp; done) | (simp; omega)) _ | refine Below.trans ?_ (Below.mono (by assumption) (by first | omega | (simp; done) | (simp; omega)))))
  go_wp2_with fail
  refine Calls.mono (few_any g sa da pa sc dc pc plan pv _ (hG.later hbw) (hP.later hbw)) ?_
  rw [HF.out]
  rintro e w2 ⟨rfl, hb2⟩
  have hbw2 : Below w.heap.size w w2 := hbw.trans (hb2.mono hbw.size)
  clear hb1 hb2 hbw
  go_wp2_with fail
  go_ret
  exact retB rfl hbw2
set_option maxRecDepth 100000 in
set_option maxHeartbeats 4000000 in
theorem sound_yes (g : Gm) (sa da pa : Option Addr) (sc dc pc : Nat) (plan : List Pos) (pv : Nat → Value) (bound : Int) (ra : Option Addr) (rc : Nat) (raw : List Int) (w : World) (hG : GmAt w g sa da) (hP : PlanAt w pa plan pv) (hpi : ∀ p ∈ plan, PosIn p) (hf : FewOk g plan 300)
    (hR : U8s w ra raw) (hrl : raw.length < 9223372036854775808) (hrb : ∀ j, j < raw.length → 0 ≤ ig raw j ∧ ig raw j < 256) :
    Calls Try.prog 4 #[gmV g sa sc da dc, .slice pa plan.length pc, .int .i64 bound, .slice ra raw.length rc] w (RetB (.bool true) w) := by
  have HF := Lib.hid (fewB_yes hf)
  have HG := Lib.hid hG
  have HP := Lib.hid hP
  have HPI := Lib.hid hpi
  have HRW := Lib.hid hR
  have HRL := Lib.hid hrl
  have HRB := Lib.hid hrb
  have hpl : plan.length ≤ 300 := hf.2.2.1
  have HA := Lib.hid (show ∀ wx b, GmAt wx g sa da → PlanAt wx pa plan pv → Calls Try.prog 10 #[gmV g sa sc da dc, .slice pa plan.length pc, .int .i64 b] wx (RetB (.bool (accB g plan b)) wx) from fun wx b h1 h2 => accept_any g sa da pa sc dc pc plan pv b wx h1 hf.gm h2 hpi (by omega))
  unfold gmV at HA
  have HFF := Lib.hid hf
  clear hG hP hpi hf hR hrl hrb
  go_enter Try.func4, Try.ntmps4
  go_wp2_with fail
  refine Calls.mono (head_any _) ?_
  rintro e w1 ⟨rfl, hb1⟩; have hs1 := hb1.size; (try simp at hs1)
  have x0 : w1.cell? ⟨w.heap.size, 0, none⟩ = some (.slice sa g.starts.length sc) := cell_later hb1 (by first | assumption | (simp [go_sem, *]; done) | exact cell_later' (by assumption) (by repeat (first | exact Below.refl _ _ | assumption | refine Below.drew ?_ | refine below_drewN ?_ _ | refine Below.alloc ?_ (by first | omega | (simp; done) | (simp; omega)) _ | refine Below.setCell ?_ (by first | omega | (simp; done) | (simp; omega)) _ | refine Below.trans ?_ (Below.mono (by assumption) (by first | omega | (simp; done) | (simp; omega))))))
  have x1 : w1.cell? ⟨w.heap.size, 1, none⟩ = some (.slice da g.deps.length dc) := cell_later hb1 (by first | assumption | (simp [go_sem, *]; done) | exact cell_later' (by assumption) (by repeat (first | exact Below.refl _ _ | assumption | refine Below.drew ?_ | refine below_drewN ?_ _ | refine Below.alloc ?_ (by first | omega | (simp; done) | (simp; omega)) _ | refine Below.setCell ?_ (by first | omega | (simp; done) | (simp; omega)) _ | refine Below.trans ?_ (Below.mono (by assumption) (by first | omega | (simp; done) | (simp; omega))))))
  have x2 : w1.cell? ⟨w.heap.size, 2, none⟩ = some (.int .i64 g.budget) := cell_later hb1 (by first | assumption | (simp [go_sem, *]; done) | exact cell_later' (by assumption) (by repeat (first | exact Below.refl _ _ | assumption | refine Below.drew ?_ | refine below_drewN ?_ _ | refine Below.alloc ?_ (by first | omega | (simp; done) | (simp; omega)) _ | refine Below.setCell ?_ (by first | omega | (simp; done) | (simp; omega)) _ | refine Below.trans ?_ (Below.mono (by assumption) (by first | omega | (simp; done) | (simp; omega))))))
  have hbw : Below w.heap.size w w1 := (by repeat (first | exact Below.refl _ _ | assumption | refine Below.drew ?_ | refine below_drewN ?_ _ | refine Below.alloc ?_ (by first | omega | (simp; done) | (simp; omega)) _ | refine Below.setCell ?_ (by first | omega | (simp; done) | (simp; omega)) _ | refine Below.trans ?_ (Below.mono (by assumption) (by first | omega | (simp; done) | (simp; omega)))))
  have lx : w.heap.size < w1.heap.size := by omega
  clear hb1
  go_wp2_with fail
  refine Calls.mono (few_any g sa da pa sc dc pc plan pv _ (HG.out.later hbw) (HP.out.later hbw)) ?_
  rw [HF.out]
  rintro e w2 ⟨rfl, hb2⟩
  have hbw2 : Below w.heap.size w w2 := hbw.trans (hb2.mono hbw.size)
  have ly := hb2.size
  have y0 := cell_later hb2 x0
  have y1 := cell_later hb2 x1
  have y2 := cell_later hb2 x2
  have hg2 := HG.out.later hbw2
  have hp2 := HP.out.later hbw2
  clear hb2 hbw x0 x1 x2
  go_wp2_with fail
  refine Calls.mono (HA.out _ _ hg2 hp2) ?_
  rintro e w3 ⟨rfl, hb3⟩
  have hbw3 : Below w.heap.size w w3 := hbw2.trans (hb3.mono hbw2.size)
  have lz := hb3.size
  have z0 := cell_later hb3 y0
  have z1 := cell_later hb3 y1
  have z2 := cell_later hb3 y2
  clear hb3 y0 y1 y2 hg2 hp2 hbw2
  by_cases hA : Acc g plan bound
  · rw [accB_true hA]
    have HNN := Lib.hid hA.nonneg
    have HAC := Lib.hid hA
    clear hA
    go_wp2_with fail
    refine Calls.mono (begin_any g sa da sc dc _ (HG.out.later hbw3).s (by have := HFF.out.1; omega)) ?_
    rintro e w4 ⟨sa2, sc2, fa2, fc2, rfl, hps4, hb4⟩
    have hbw4 : Below w.heap.size w w4 := hbw3.trans (hb4.mono hbw3.size)
    have z0' := cell_later hb4 z0
    have z1' := cell_later hb4 z1
    have z2' := cell_later hb4 z2
    have l4 := hb4.size
    have HPS := Lib.hid hps4
    clear hps4 hb4 z0 z1 z2 hbw3
    obtain ⟨s0, hs0⟩ : ∃ s, s = posB g := ⟨_, rfl⟩
    rw [← hs0] at HPS ⊢
    have HS0 := Lib.hid hs0
    clear hs0
    unfold psV
    go_wp2_with fail
    obtain ⟨wq, hwq⟩ : ∃ wq, wq = w4.alloc (Obj.cells #[.int .i64 s0.turn, .slice sa2 s0.starts.length sc2, .slice fa2 s0.failed.length fc2, .int .i64 s0.budget, .int .i64 s0.choice, .int .i64 s0.bound] 33) := ⟨_, rfl⟩
    rw [← hwq]
    have hbq : Below w4.heap.size w4 wq := by rw [hwq]; exact (by repeat (first | exact Below.refl _ _ | assumption | refine Below.drew ?_ | refine below_drewN ?_ _ | refine Below.alloc ?_ (by first | omega | (simp; done) | (simp; omega)) _ | refine Below.setCell ?_ (by first | omega | (simp; done) | (simp; omega)) _ | refine Below.trans ?_ (Below.mono (by assumption) (by first | omega | (simp; done) | (simp; omega)))))
    have SO0 := Lib.hid (show SoI w4 wq s0 sa2 sc2 fa2 fc2 from ⟨hbq, by rw [hwq]; simp, by rw [hwq]; exact BoxAt.new w4 (psF s0 sa2 sc2 fa2 fc2) 33, ((IntsS.of HPS.out.s).mono fun b (hb : b < w4.heap.size) => by omega).later hbq, ((BoolsS.of HPS.out.f).mono fun b (hb : b < w4.heap.size) => by omega).later hbq⟩)
    have HBW4 := Lib.hid hbw4
    clear hwq hbq
    obtain ⟨nd, hnd⟩ : ∃ n, n = g.deps.length := ⟨_, rfl⟩
    have HND := Lib.hid hnd
    obtain ⟨ns, hns⟩ : ∃ n, n = g.starts.length := ⟨_, rfl⟩
    have HNS := Lib.hid hns
    have hns6 : ns ≤ 6 := by rw [hns]; exact HAC.out.1.1
    have hnd12 : nd ≤ 12 := by rw [hnd]; exact HAC.out.1.2.1
    rw [← hnd] at z1' ⊢
    rw [← hns] at z0' ⊢
    clear hnd hns
    go_loopg [11, 12] (nd + 1) (fun n v11 v12 wr => ∃ (k : Nat) (lost : Int) (s : Pos) (sa1 : Option Addr) (sc1 : Nat) (fa1 : Option Addr) (fc1 : Nat), k ≤ nd ∧ n + k = nd + 1 ∧ v11 = .int .i64 lost ∧ v12 = .int .i64 k ∧ SoI w4 wr s sa1 sc1 fa1 fc1 ∧ s.turn = k ∧ 0 ≤ lost ∧ lost ≤ k ∧ lost ≤ bound ∧ (k < nd → Sd g plan bound s.st lost))
    case atStart =>
      refine ⟨0, 0, s0, sa2, sc2, fa2, fc2, by omega, by omega, rfl, rfl, SO0.out, by rw [HS0.out]; rfl, by omega, by omega, HNN.out, fun h => ?_⟩
      rw [HS0.out]
      exact Sd.begin HAC.out (fun e => by rw [HND.out, e] at h; simp at h)
    case round =>
      obtain ⟨k, lost, s, sa1, sc1, fa1, fc1, hk, hnk, rfl, rfl, hso, hst, hl0, hlk, hlb, hsd⟩ := hrel
      have hbr : Below w.heap.size w wr := HBW4.out.trans (hso.low.mono HBW4.out.size)
      have b0 := cell_later hso.low z0'
      have b1 := cell_later hso.low z1'
      have b2 := cell_later hso.low z2'
      have SO := Lib.hid hso
      have SD := Lib.hid hsd
      have HST := Lib.hid hst
      have HBR := Lib.hid hbr
      have lr := hso.lt
      clear hso hsd hst
      by_cases hlt : k < nd
      · have n1 : (k : Int) < (nd : Int) := by omega
        have n0 : (0 : Int) ≤ (k : Int) := by omega
        obtain ⟨p0, f0⟩ := SO.out.box 0 _ rfl
        obtain ⟨p1, f1⟩ := SO.out.box 1 _ rfl
        obtain ⟨p2, f2⟩ := SO.out.box 2 _ rfl
        obtain ⟨p3, f3⟩ := SO.out.box 3 _ rfl
        obtain ⟨p4, f4⟩ := SO.out.box 4 _ rfl
        obtain ⟨p5, f5⟩ := SO.out.box 5 _ rfl
        have hinv := (SD.out hlt s.st (mem_made.2 (.inl rfl))).2.1
        have hfl : s.failed.length = ns := hinv.lf.trans HNS.out.symm
        have hbg1 : s.budget ≤ 3 := Int.le_trans hinv.b0 HAC.out.1.2.2.2.1
        clear hinv
        go_upto_region 9 with fail
        go_cut [52] from 31 to 118 (fun v52 wx => v52 = .bool (decide (k < raw.length ∧ 0 < s.budget ∧ 0 < ns)) ∧ wx = wr)
        case first => as_aux_lemma =>
          have hrl := HRL.out
          by_cases hc1 : k < raw.length
          · have d1 : decide (k < raw.length) = true := decide_eq_true hc1
            by_cases hc2 : 0 < s.budget
            · have d2 : decide (0 < s.budget) = true := decide_eq_true hc2
              by_cases hc3 : 0 < ns
              · have d3 : decide (0 < ns) = true := decide_eq_true hc3
                have HN := Lib.hid (show decide (k < raw.length ∧ 0 < s.budget ∧ 0 < ns) = true from decide_eq_true ⟨hc1, hc2, hc3⟩)
                clear hc1 hc2 hc3
                go_wp2_with fail
                go_meet
                exact ⟨by rw [HN.out], rfl⟩
              · have d3 : decide (0 < ns) = false := decide_eq_false hc3
                have HN := Lib.hid (show decide (k < raw.length ∧ 0 < s.budget ∧ 0 < ns) = false from decide_eq_false fun h => hc3 h.2.2)
                clear hc1 hc2 hc3
                go_wp2_with fail
                go_meet
                exact ⟨by rw [HN.out], rfl⟩
            · have d2 : decide (0 < s.budget) = false := decide_eq_false hc2
              have HN := Lib.hid (show decide (k < raw.length ∧ 0 < s.budget ∧ 0 < ns) = false from decide_eq_false fun h => hc2 h.2.1)
              clear hc1 hc2
              go_wp2_with fail
              go_meet
              exact ⟨by rw [HN.out], rfl⟩
          · have d1 : decide (k < raw.length) = false := decide_eq_false hc1
            have HN := Lib.hid (show decide (k < raw.length ∧ 0 < s.budget ∧ 0 < ns) = false from decide_eq_false fun h => hc1 h.1)
            clear hc1
            go_wp2_with fail
            go_meet
            exact ⟨by rw [HN.out], rfl⟩
        case rest => as_aux_lemma =>
        obtain ⟨rfl, rfl⟩ := hcut
        go_upto_if 52 with fail
        go_cut [13, 14] from 31 to 118 (fun _ _ wx => ∃ (x : Pos) (sa' : Option Addr) (sc' : Nat) (fa' : Option Addr) (fc' : Nat), SoI w4 wx x sa' sc' fa' fc' ∧ x.st ∈ madeL s.st)
        case first => as_aux_lemma =>
          by_cases hC : k < raw.length ∧ 0 < s.budget ∧ 0 < ns
          · rw [decide_eq_true hC]
            obtain ⟨hc1, hc2, hc3⟩ := hC
            obtain ⟨rb, ro, rfl, hrc⟩ := (HRW.out.later hbr) k hc1
            have hbb := HRB.out k hc1
            have hrl := HRL.out
            have d1' : (k : Int) < (raw.length : Int) := by omega
            have hq0 : 0 ≤ ig raw k % ((ns : Int) + 1) := Int.emod_nonneg _ (by omega)
            have hq1 : ig raw k % ((ns : Int) + 1) < (ns : Int) + 1 := Int.emod_lt_of_pos _ (by omega)
            obtain ⟨q, hq⟩ : ∃ q : Nat, ig raw k % ((ns : Int) + 1) = (q : Int) := ⟨(ig raw k % ((ns : Int) + 1)).toNat, by omega⟩
            have hqn : q ≤ ns := by omega
            have hwn : IntKind.i64.wrap ((ns : Int) + 1) = (ns : Int) + 1 := IntWalk.i64_in _ (by omega)
            obtain ⟨m, hm⟩ : ∃ m, m = ig raw k := ⟨_, rfl⟩
            rw [← hm] at hrc hbb hq hq0 hq1
            obtain ⟨hm0, hm1⟩ := hbb
            have ht : (IntKind.i64.wrap m).tmod ((ns : Int) + 1) = (q : Int) := by rw [IntWalk.i64_in _ (by omega), Int.tmod_eq_emod_of_nonneg hm0, hq]
            have hz : ¬ ((ns : Int) + 1 = 0) := by omega
            clear hm hq hq0 hq1
            go_wp2_with fail
            have hS : ∀ wy : World, Below wc.heap.size wc wy → wy.cell? ⟨w.heap.size, 0, none⟩ = some (.slice sa ns sc) ∧ wy.cell? ⟨rb, ro + k, none⟩ = some (.int .u8 m) := fun wy hy => ⟨cell_later hy b0, cell_later hy hrc⟩
            refine wp_flow_s [] [] (by kernel_rfl) (by kernel_rfl) (by kernel_rfl) ?_
            repeat (first | ((with_reducible refine Flow.pure hS StayG.nil (v := ?_) ?_ ?_ ?_ ?_); rotate_left 1; (focus kernel_rfl); (focus (intro _; rfl)); (focus (intro β wx hSw; (try dsimp only at hSw); go_simp; (try with_reducible rfl); done)); (try simp only [Act.put, List.setIfInBounds_toArray, List.set_cons_zero, List.set_cons_succ, Nat.reduceAdd])))
            ((with_reducible refine Flow.stop ?_); dsimp only; intro β w5 hI)
            have hb5 := hI.below
            have hqv : q < ns ∨ q = ns := by omega
            have so5 := SO.out.later hb5
            have HB5 := Lib.hid (HBR.out.trans (hb5.mono HBR.out.size))
            have SO5 := Lib.hid so5
            have c0 := cell_later hb5 b0
            have s0' := (so5.box 0 _ rfl)
            have s1' := (so5.box 1 _ rfl)
            have s2' := (so5.box 2 _ rfl)
            have s3' := (so5.box 3 _ rfl)
            have s4' := (so5.box 4 _ rfl)
            have s5' := (so5.box 5 _ rfl)
            obtain ⟨p0, f0⟩ := s0'
            obtain ⟨p1, f1⟩ := s1'
            obtain ⟨p2, f2⟩ := s2'
            obtain ⟨p3, f3⟩ := s3'
            obtain ⟨p4, f4⟩ := s4'
            obtain ⟨p5, f5⟩ := s5'
            rw [hfl] at p2
            clear hS hI ht hz hwn hrc so5 hb5
            rcases hqv with hqv | hqv
            · obtain ⟨fb, fo, rfl, _, hfc⟩ := SO5.out.sf q (by omega)
              have e1 : decide (q < ns) = true := decide_eq_true hqv
              have n2 : (q : Int) < (ns : Int) := by omega
              have n3 : (0 : Int) ≤ (q : Int) := by omega
              obtain ⟨bv, hbv⟩ : ∃ bv, bv = bg s.failed q := ⟨_, rfl⟩
              rw [← hbv] at hfc
              have HBV := Lib.hid hbv
              clear hbv
              cases bv
              · have SB := Lib.hid (SO5.out.sf.bools)
                have hnil := World.ownsRow_lit (base := w5.heap.size) (e := 4) (size := 1) w5 #[] 0 (Nat.le_refl _) (by unfold maxLen; omega) rfl
                have hEm : Below w5.heap.size w5 (w5.alloc (.cells #[] 4)) := (by repeat (first | exact Below.refl _ _ | assumption | refine Below.drew ?_ | refine below_drewN ?_ _ | refine Below.alloc ?_ (by first | omega | (simp; done) | (simp; omega)) _ | refine Below.setCell ?_ (by first | omega | (simp; done) | (simp; omega)) _ | refine Below.trans ?_ (Below.mono (by assumption) (by first | omega | (simp; done) | (simp; omega)))))
                obtain ⟨v', w2, hr, ho, hg, hn⟩ := app_bools _ w5.heap.size _ hnil (some ⟨fb, fo, none⟩) fc1 s.failed (SB.out.later hEm) (by omega) (by simp) 31
                have hb2 : Below w5.heap.size w5 w2 := hEm.grown hg hEm.size (fun b hb => (World.ownsRow.lt hnil b hb).1)
                obtain ⟨gb, gc, rfl, hg1, hg2⟩ := own_some ho (by omega)
                rw [hfl] at hr ho
                have HR := Lib.hid hr
                have gcell := ho.cellAt q (by omega)
                rw [List.getElem?_map, List.getElem?_eq_getElem (by omega), Option.map_some] at gcell
                have gfr := ho.frozenAt q
                have HO := Lib.hid ho
                have hst := ho.stored q (.bool true)
                have HST2 := Lib.hid hst
                have SO2 := Lib.hid (SO5.out.later hb2)
                have HB2 := Lib.hid hb2
                have t0 := SO2.out.box 0 _ rfl
                have t1 := SO2.out.box 1 _ rfl
                have t2 := SO2.out.box 2 _ rfl
                have t3 := SO2.out.box 3 _ rfl
                have t4 := SO2.out.box 4 _ rfl
                have t5 := SO2.out.box 5 _ rfl
                obtain ⟨t0, k0⟩ := t0
                obtain ⟨t1, k1⟩ := t1
                obtain ⟨t2, k2⟩ := t2
                obtain ⟨t3, k3⟩ := t3
                obtain ⟨t4, k4⟩ := t4
                obtain ⟨t5, k5⟩ := t5
                have lw5 := SO5.out.lt
                have gne : ¬ gb = w4.heap.size := by omega
                have gne' : ¬ w4.heap.size = gb := by omega
                have hbud : IntKind.i64.wrap (s.budget - 1) = s.budget - 1 := IntWalk.i64_in _ (by omega)
                clear hr ho hst hg hn hnil hEm hb2
                go_wp2_with (at_builtin; go_loud (refine wpList_app_eq rfl _ _ _ rfl _ _ rfl rfl HR.out ?_))
                have hh := SO5.out.hit SO2.out HB2.out hg1 hfl HST2.out.1 HST2.out.2
                simp only [World.setCells, Nat.zero_add, Nat.reduceAdd] at hh
                go_meet
                exact ⟨_, sa1, sc1, some ⟨gb, 0, none⟩, gc, hh, mem_made.2 (.inr ⟨q, by show q < s.failed.length; omega, hc2, HBV.out.symm, rfl⟩)⟩
              · go_wp2_with fail
                go_meet
                exact ⟨s, sa1, sc1, _, fc1, SO5.out, mem_made.2 (.inl rfl)⟩
            · subst hqv
              have e1 : decide (q < q) = false := decide_eq_false (by omega)
              go_wp2_with fail
              go_meet
              exact ⟨s, sa1, sc1, fa1, fc1, SO5.out, mem_made.2 (.inl rfl)⟩
          · rw [decide_eq_false hC]
            clear hC
            go_wp2_with fail
            go_meet
            exact ⟨s, sa1, sc1, fa1, fc1, SO.out, mem_made.2 (.inl rfl)⟩
        case rest => as_aux_lemma =>
        obtain ⟨x, sa', sc', fa', fc', hsx, hxm⟩ := hcut
        have hbc : Below w.heap.size w wc := HBW4.out.trans (hsx.low.mono HBW4.out.size)
        have hd : g.deps ≠ [] := fun e => by have := HND.out; rw [e] at this; simp at this; omega
        obtain ⟨hrch, hinv, p, hpos, hpb0, hpb⟩ := SD.out hlt x.st hxm
        obtain ⟨i, hii, hfi, hpi, hpst, _⟩ := findX_some hpos
        obtain ⟨_, hposs, hch⟩ := Sd.poss HAC.out hd (SD.out hlt) hxm hpos
        have hxk : x.turn = k := by
          have h1 := HST.out
          rcases mem_made.1 hxm with e | ⟨v, _, _, _, e⟩
          · have : x.st.turn = s.st.turn := by rw [e]
            exact Eq.trans this h1
          · have : x.st.turn = s.st.turn := by rw [e]; rfl
            exact Eq.trans this h1
        have hf := find_any plan pv pa pc x sa' fa' sc' fc' wc (HP.out.later hbc) hsx.ps (HFF.out.plan (by decide))
        rw [hfi] at hf
        unfold psV at hf
        have HF1 := Lib.hid hf
        obtain ⟨p0, f0⟩ := hsx.box 0 _ rfl
        obtain ⟨p1, f1⟩ := hsx.box 1 _ rfl
        obtain ⟨p2, f2⟩ := hsx.box 2 _ rfl
        obtain ⟨p3, f3⟩ := hsx.box 3 _ rfl
        obtain ⟨p4, f4⟩ := hsx.box 4 _ rfl
        obtain ⟨p5, f5⟩ := hsx.box 5 _ rfl
        have c0 := cell_later hsx.low z0'
        have c1 := cell_later hsx.low z1'
        have c2 := cell_later hsx.low z2'
        have SX := Lib.hid hsx
        have HXM := Lib.hid hxm
        have HD := Lib.hid hd
        have HPOS := Lib.hid hpos
        have HINV := Lib.hid hinv
        have HPB := Lib.hid (And.intro hpb0 hpb)
        have HXK := Lib.hid hxk
        have HPI1 := Lib.hid hpi
        have HPST := Lib.hid hpst
        have HBC := Lib.hid hbc
        have HPO := Lib.hid (show ∀ wy psa psc pfa pfc, GmAt wy g sa da → PsAt wy p psa pfa → Calls Try.prog 14 #[.agg #[.slice sa ns sc, .slice da nd dc, .int .i64 g.budget], .agg #[.int .i64 p.turn, .slice psa p.starts.length psc, .slice pfa p.failed.length pfc, .int .i64 p.budget, .int .i64 p.choice, .int .i64 p.bound]] wy (RetB (.bool true) wy) from fun wy psa psc pfa pfc h1 h2 => by
          have h := poss_any g p sa da psa pfa sc dc psc pfc wy h1 h2 HFF.out.gm
          rw [possB_yes hposs] at h
          unfold gmV psV at h
          rw [← HNS.out, ← HND.out] at h
          exact h)
        clear hf hsx hxm hd hpos hinv hpb0 hpb hxk hpst hrch hfi hbc hposs
        go_wp2_with fail
        refine Calls.mono HF1.out ?_
        rintro e w5 ⟨rfl, hb5⟩
        have hbw5 : Below w.heap.size w w5 := HBC.out.trans (hb5.mono HBC.out.size)
        have d0 := cell_later hb5 c0
        have d1 := cell_later hb5 c1
        have d2 := cell_later hb5 c2
        have S5 := Lib.hid (SX.out.later hb5)
        obtain ⟨pb, po, psa, psc, pfa, pfc, rfl, _, hcc0, hpp0⟩ := HP.out i hii
        rw [hpi] at hcc0 hpp0
        have hcc := hcc0.later hbw5
        have hpp := hpp0.later hbw5
        have HPP0 := Lib.hid hpp0
        clear hcc0 hpp0
        obtain ⟨q0, q1, q2, q3, q4, q5⟩ := hcc
        have hg5 := HG.out.later hbw5
        have HBW5 := Lib.hid hbw5
        have HPP := Lib.hid hpp
        have m1 : (i : Int) < (plan.length : Int) := by omega
        have m0 : (0 : Int) ≤ (i : Int) := by omega
        have e4 : decide ((i : Int) < 0) = false := decide_eq_false (by omega)
        clear hb5 p0 p1 p2 p3 p4 p5 f0 f1 f2 f3 f4 f5 c0 c1 c2 hbr b0 b1 b2 hpi hbw5
        go_wp2_with fail
        have hS : ∀ wy : World, Below w5.heap.size w5 wy → (wy.cell? ⟨w.heap.size, 0, none⟩ = some (.slice sa ns sc) ∧ wy.cell? ⟨w.heap.size, 1, none⟩ = some (.slice da nd dc) ∧ wy.cell? ⟨w.heap.size, 2, none⟩ = some (.int .i64 g.budget) ∧ wy.cell? ⟨pb, po + i * 6, none⟩ = some (.int .i64 p.turn) ∧ wy.cell? ⟨pb, po + i * 6 + 1, none⟩ = some (.slice psa p.starts.length psc) ∧ wy.cell? ⟨pb, po + i * 6 + 2, none⟩ = some (.slice pfa p.failed.length pfc) ∧ wy.cell? ⟨pb, po + i * 6 + 3, none⟩ = some (.int .i64 p.budget) ∧ wy.cell? ⟨pb, po + i * 6 + 4, none⟩ = some (.int .i64 p.choice) ∧ wy.cell? ⟨pb, po + i * 6 + 5, none⟩ = some (.int .i64 p.bound)) ∧ GmAt wy g sa da ∧ PsAt wy p psa pfa := fun wy hy => ⟨⟨cell_later hy d0, cell_later hy d1, cell_later hy d2, cell_later hy q0, cell_later hy q1, cell_later hy q2, cell_later hy q3, cell_later hy q4, cell_later hy q5⟩, hg5.later hy, hpp.later hy⟩
        refine wp_flow_s [] [] (by kernel_rfl) (by kernel_rfl) (by kernel_rfl) ?_
        repeat (first | ((with_reducible refine Flow.pure hS StayG.nil (v := ?_) ?_ ?_ ?_ ?_); rotate_left 1; (focus kernel_rfl); (focus (intro _; rfl)); (focus (intro β wx hSw; (try dsimp only at hSw); go_simp; (try with_reducible rfl); done)); (try simp only [Act.put, List.setIfInBounds_toArray, List.set_cons_zero, List.set_cons_succ, Nat.reduceAdd])))
        ((with_reducible refine Flow.call hS StayG.nil (v := ?_) ?_ ?_ ?_ ?_); rotate_left 1; (focus kernel_rfl); (focus (intro _; rfl)); (focus (intro β L wx hI hat hSw K' hK; (try dsimp only at hSw); go_simp; go_at_call 14; refine Calls.mono (HPO.out _ psa psc pfa pfc hSw.2.1 hSw.2.2) ?_; rintro e w' ⟨rfl, hb'⟩; exact hK.out _ hb')); (try simp only [Act.put, List.setIfInBounds_toArray, List.set_cons_zero, List.set_cons_succ, Nat.reduceAdd]))
        repeat (first | ((with_reducible refine Flow.pure hS StayG.nil (v := ?_) ?_ ?_ ?_ ?_); rotate_left 1; (focus kernel_rfl); (focus (intro _; rfl)); (focus (intro β wx hSw; (try dsimp only at hSw); go_simp; (try with_reducible rfl); done)); (try simp only [Act.put, List.setIfInBounds_toArray, List.set_cons_zero, List.set_cons_succ, Nat.reduceAdd])))
        ((with_reducible refine Flow.stop ?_); dsimp only; intro β6 w6 hI6)
        have hb6 := hI6.below
        have HBW6 := Lib.hid (HBW5.out.trans (hb6.mono HBW5.out.size))
        have g0 := cell_later hb6 d0
        have g1 := cell_later hb6 d1
        have g2 := cell_later hb6 d2
        have r0 := cell_later hb6 q0
        have r1 := cell_later hb6 q1
        have r2 := cell_later hb6 q2
        have r3 := cell_later hb6 q3
        have r4 := cell_later hb6 q4
        have r5 := cell_later hb6 q5
        have S6 := Lib.hid (S5.out.later hb6)
        have HPP6 := Lib.hid (HPP.out.later hb6)
        obtain ⟨pn, hpn⟩ : ∃ pn, pn = posA p := ⟨_, rfl⟩
        have HPN := Lib.hid hpn
        have hpst := HPST.out
        have hpt : p.turn = k := (show p.turn = x.turn from congrArg St.turn hpst).trans HXK.out
        have hpst' : p.starts = x.starts := congrArg St.starts hpst
        have hsl : p.starts.length ≤ 6 := by rw [hpst']; exact Nat.le_trans (Nat.le_of_eq (HINV.out.ls)) HAC.out.1.1
        have hig : ∀ c, c < p.starts.length → ig p.starts c ≤ 1000 := fun c hc => by
          rw [hpst'] at hc ⊢
          have h1 := (HINV.out.st c hc).2
          have h2 := (HAC.out.1.2.2.2.2.1 c (by have := HINV.out.ls; have h3 : x.st.starts.length = x.starts.length := rfl; omega)).2
          have h3 : ig x.st.starts c = ig x.starts c := rfl
          omega
        have HAF := Lib.hid (show ∀ wy, PsAt wy p psa pfa → Calls Try.prog 15 #[psV p psa psc pfa pfc] wy (PosN pfa pfc pn wy) from fun wy h => by
          rw [hpn]
          refine after_any p psa pfa psc pfc wy h (by omega) (by omega) (by omega) ?_
          rcases hch with hc | ⟨h1, h2, h3⟩
          · exact .inl hc
          · obtain ⟨c, hc⟩ := Int.eq_ofNat_of_zero_le h1
            rw [hc, Int.toNat_natCast] at h3
            exact .inr ⟨c, hc, by omega, h3, hig c (by omega)⟩)
        unfold psV at HAF
        have HLB := Lib.hid (show lost + lostP p ≤ bound ∧ (k + 1 < nd → Sd g plan bound pn.st (lost + lostP p)) from by
          have hstep : k + 1 < nd → Sd g plan bound pn.st (lost + lostP p) := fun h => by
            have := Sd.step HAC.out HD.out (SD.out hlt) HXM.out HPOS.out (show x.turn + 1 ≠ g.deps.length by rw [HXK.out, ← HND.out]; omega)
            rw [hpn, posA_st, hpst]
            exact this
          refine ⟨?_, hstep⟩
          by_cases h : k + 1 < nd
          · obtain ⟨_, _, r, _, h1, h2⟩ := hstep h _ (mem_made.2 (.inl rfl))
            omega
          · exact Sd.last HAC.out HD.out (SD.out hlt) HXM.out HPOS.out (show x.turn + 1 = g.deps.length by rw [HXK.out, ← HND.out]; omega))
        have HPT := Lib.hid hpt
        clear hS hI6 hb6 d0 d1 d2 q0 q1 q2 q3 q4 q5 hg5 hpp hpn hpst hpst' hig hsl hpt
        by_cases hcn : p.choice = -1
        · have hl1 : lostP p = 1 := if_pos hcn
          rw [hcn] at r4 HAF
          have HCN := Lib.hid hcn
          have HL1 := Lib.hid hl1
          clear hch hcn hl1
          go_wp2_with fail
          (refine Calls.mono (HAF.out _ HPP6.out) ?_; rintro e w7 ⟨san, scn, rfl, hin, hb7⟩; have s7 := S6.out.later hb7; have HBW7 := Lib.hid (HBW6.out.trans (hb7.mono HBW6.out.size)); have S7 := Lib.hid s7; have HIN := Lib.hid hin; obtain ⟨p0, f0⟩ := s7.box 0 _ rfl; obtain ⟨p1, f1⟩ := s7.box 1 _ rfl; obtain ⟨p2, f2⟩ := s7.box 2 _ rfl; obtain ⟨p3, f3⟩ := s7.box 3 _ rfl; obtain ⟨p4, f4⟩ := s7.box 4 _ rfl; obtain ⟨p5, f5⟩ := s7.box 5 _ rfl; have hl6 := S6.out.lt; have HB7 := Lib.hid hb7; clear s7 hin hb7 r0 r1 r2 r3 r4 r5 g0 g1 g2; unfold psV; go_wp2_with fail)
          have hsn := S7.out.store (x := pn) (sc' := scn) (fc' := pfc) (HIN.out.mono fun b (hb : w6.heap.size ≤ b) => by omega) (show BoolsS (fun b => b ≠ w4.heap.size) w7 pfa pn.failed from by
            rw [HPN.out]
            have hw4 := HBW4.out.size
            exact ((BoolsS.of HPP0.out.f).mono fun b (hb : b < w.heap.size) => by omega).later HBW7.out)
          unfold psF at hsn
          simp only [World.setCells, Nat.zero_add, Nat.reduceAdd] at hsn
          have HSN := Lib.hid hsn
          have HTN := Lib.hid (show pn.turn = ((k + 1 : Nat) : Int) from by rw [HPN.out]; show p.turn + 1 = _; rw [HPT.out]; omega)
          clear hsn
          go_roundg (nd - k)
          case measure => omega
          case rel => exact ⟨k + 1, lost + 1, pn, san, scn, pfa, pfc, by omega, by omega, by go_num, by go_num, HSN.out, HTN.out, by omega, by omega, by have := HLB.out.1; rw [HL1.out] at this; exact this, fun h => by have := HLB.out.2 h; rw [HL1.out] at this; exact this⟩
        · have hc0 : 0 ≤ p.choice := by
            rcases hch with h | h
            · exact absurd h hcn
            · exact h.1
          have e5 : decide (p.choice < 0) = false := decide_eq_false (by omega)
          have hl1 : lostP p = 0 := if_neg hcn
          have HL1 := Lib.hid hl1
          clear hch hcn hl1
          go_wp2_with fail
          (refine Calls.mono (HAF.out _ HPP6.out) ?_; rintro e w7 ⟨san, scn, rfl, hin, hb7⟩; have s7 := S6.out.later hb7; have HBW7 := Lib.hid (HBW6.out.trans (hb7.mono HBW6.out.size)); have S7 := Lib.hid s7; have HIN := Lib.hid hin; obtain ⟨p0, f0⟩ := s7.box 0 _ rfl; obtain ⟨p1, f1⟩ := s7.box 1 _ rfl; obtain ⟨p2, f2⟩ := s7.box 2 _ rfl; obtain ⟨p3, f3⟩ := s7.box 3 _ rfl; obtain ⟨p4, f4⟩ := s7.box 4 _ rfl; obtain ⟨p5, f5⟩ := s7.box 5 _ rfl; have hl6 := S6.out.lt; have HB7 := Lib.hid hb7; clear s7 hin hb7 r0 r1 r2 r3 r4 r5 g0 g1 g2; unfold psV; go_wp2_with fail)
          have hsn := S7.out.store (x := pn) (sc' := scn) (fc' := pfc) (HIN.out.mono fun b (hb : w6.heap.size ≤ b) => by omega) (show BoolsS (fun b => b ≠ w4.heap.size) w7 pfa pn.failed from by
            rw [HPN.out]
            have hw4 := HBW4.out.size
            exact ((BoolsS.of HPP0.out.f).mono fun b (hb : b < w.heap.size) => by omega).later HBW7.out)
          unfold psF at hsn
          simp only [World.setCells, Nat.zero_add, Nat.reduceAdd] at hsn
          have HSN := Lib.hid hsn
          have HTN := Lib.hid (show pn.turn = ((k + 1 : Nat) : Int) from by rw [HPN.out]; show p.turn + 1 = _; rw [HPT.out]; omega)
          clear hsn
          go_roundg (nd - k)
          case measure => omega
          case rel => exact ⟨k + 1, lost + 0, pn, san, scn, pfa, pfc, by omega, by omega, by go_num, by go_num, HSN.out, HTN.out, by omega, by omega, by have := HLB.out.1; rw [HL1.out] at this; exact this, fun h => by have := HLB.out.2 h; rw [HL1.out] at this; exact this⟩
      · obtain rfl : k = nd := by omega
        have e1 : decide (lost ≤ bound) = true := decide_eq_true hlb
        clear hbr
        go_wp2_with fail
        go_ret
        exact retB rfl HBR.out
  · rw [accB_false hA]
    go_wp2_with fail
    go_ret
    exact retB rfl hbw3
theorem sound_any (g : Gm) (sa da pa : Option Addr) (sc dc pc : Nat) (plan : List Pos) (pv : Nat → Value) (bound : Int) (ra : Option Addr) (rc : Nat) (raw : List Int) (w : World) (hG : GmAt w g sa da) (hP : PlanAt w pa plan pv) (hpi : ∀ p ∈ plan, PosIn p)
    (hR : U8s w ra raw) (hrl : raw.length < 9223372036854775808) (hrb : ∀ j, j < raw.length → 0 ≤ ig raw j ∧ ig raw j < 256) :
    Calls Try.prog 4 #[gmV g sa sc da dc, .slice pa plan.length pc, .int .i64 bound, .slice ra raw.length rc] w (RetB (.bool true) w) := by
  by_cases hf : FewOk g plan 300
  · exact sound_yes g sa da pa sc dc pc plan pv bound ra rc raw w hG hP hpi hf hR hrl hrb
  · exact sound_no g sa da pa sc dc pc plan pv bound ra raw.length rc w hG hP hf
end Go.Proofs.Ytghdfoolieagfaa
