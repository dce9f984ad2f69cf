
/- Numbers of the call's own at the head of a block; slices.Max. -/
import Derived.Test.YtoblmecgnpoogaaTaskN
import Derived.Test.YtoblmecgnpoogaaOwn
namespace Go.Proofs.Ytoblmecgnpoogaa
open Go.RowKit

/-- the call's own block g holds these numbers -/
def OwnN (w : World) (B g : Nat) (l : List Int) : Prop := w.ownsRow B 3 1 (.slice (some ⟨g, 0, none⟩) l.length l.length) l.length (l.map (Value.int .i64))
theorem OwnN.later {w w1 : World} {B g : Nat} {l : List Int} (h : OwnN w B g l) (hb : Below w.heap.size w w1) : OwnN w1 B g l :=
  World.ownsRow.kept h (grown_none hb) (by simp [Value.ownBlock])
theorem OwnN.cell {w : World} {B g : Nat} {l : List Int} (h : OwnN w B g l) {j : Nat} (hj : j < l.length) : w.cell? ⟨g, j, none⟩ = some (.int .i64 (ig l j)) := by
  rw [World.ownsRow.cellAt h j (by omega)]
  simp [hj, ig]
theorem OwnN.ints {w : World} {B g : Nat} {l : List Int} (h : OwnN w B g l) : Ints w (some ⟨g, 0, none⟩) l := fun j hj => by
  refine ⟨g, 0, rfl, ?_⟩
  rw [Nat.zero_add]
  exact h.cell hj
theorem OwnN.free {w : World} {B g : Nat} {l : List Int} (h : OwnN w B g l) (j : Nat) : w.frozen? ⟨g, j, none⟩ = false := World.ownsRow.frozenAt h j
theorem OwnN.lt {w : World} {B g : Nat} {l : List Int} (h : OwnN w B g l) : B ≤ g ∧ g < w.heap.size := World.ownsRow.lt h g rfl
theorem OwnN.set {w : World} {B g : Nat} {l : List Int} (h : OwnN w B g l) (j : Nat) (x : Int) : OwnN (w.setCell ⟨g, j, none⟩ (.int .i64 x)) B g (l.set j x) := by
  have k := (World.ownsRow.stored h j (.int .i64 x)).1
  unfold OwnN
  rw [List.map_set, List.length_set]
  exact k
theorem OwnN.mono {w : World} {B B' g : Nat} {l : List Int} (h : OwnN w B g l) (hB : B' ≤ B) : OwnN w B' g l := by
  obtain ⟨h1, h2⟩ := h
  refine ⟨h1, ?_⟩
  rcases h2 with h2 | ⟨g1, cap, cur, hv, hg, rest⟩
  · exact .inl h2
  · exact .inr ⟨g1, cap, cur, hv, by omega, rest⟩
theorem OwnN.setOther {w : World} {B g : Nat} {l : List Int} (h : OwnN w B g l) {b : Nat} (hne : g ≠ b) (o : Nat) (x : Value) : OwnN (w.setCell ⟨b, o, none⟩ x) B g l :=
  ownsRow_setCell_other h (by simpa [Value.ownBlock] using hne) x
theorem OwnB.setOther {w : World} {B g : Nat} {l : List Bool} (h : OwnB w B g l) {b : Nat} (hne : g ≠ b) (o : Nat) (x : Value) : OwnB (w.setCell ⟨b, o, none⟩ x) B g l :=
  ownsRow_setCell_other h (by simpa [Value.ownBlock] using hne) x
/-- make([]int, n) -/
theorem make_int (w : World) {ops : Array Oper} {rest : List Oper} {o : Oper} {a : Act} {Q : Exit → Act → World → Prop} (hg : o.guard = none) (l c : Operand) (hop : o.op = Op.makeSlice 23 l c)
    (kl kc : IntKind) (n : Nat) (hl : a.eval l = .int kl n) (hc : a.eval c = .int kc n) (hn : n ≤ 1000000000)
    (hK : ∀ w', OwnN w' w.heap.size w.heap.size (List.replicate n 0) → Below w.heap.size w w' → w.heap.size < w'.heap.size → wpList Try.prog ops Q rest (a.put o.dst (.slice (some ⟨w.heap.size, 0, none⟩) n n)) w') : wpList Try.prog ops Q (o :: rest) a w := by
  obtain ⟨i0, hi, hz0, hz1, hz2⟩ := info_parts info_int
  refine wpList_make_full w hg l c 23 hop w.heap.size 3 i0 (.int .i64 0) 1 Try.underlying23 hi hz0 hz1 kl kc n n n hl hc rfl rfl (by rw [hz2]; omega) (by unfold maxLen; omega) (Nat.le_refl _) fun w' h1 h2 => hK w' ?_ ⟨h2.os, h2.tape, h2.output, h2.size, fun k hk => h2.block k hk (by simp)⟩ (World.ownsRow.lt h1 _ rfl).2
  unfold OwnN
  rw [List.length_replicate, List.map_replicate]
  have e : (madeCells (Value.int .i64 0).cells (n * 1)).toList = List.replicate n (Value.int .i64 0) := by simp [madeCells, Value.cells, Nat.mod_one, List.eq_replicate_iff]
  rwa [e] at h1

@[go_sem high] theorem run_max_int2' (P : Program) (w : World) (ts : Array TypeId) (t : TypeId) (k k' : IntKind) (x y : Int) : (Builtin.max_ ts t #[.int k x, .int k' y]).run P w = .ok (.int k (max x y)) w := by
  simp [Builtin.max_, Builtin.max2, if_max]
theorem most_take (l : List Int) {q : Nat} (h : q < l.length) : most (l.take (q + 1)) = max (most (l.take q)) (ig l q) := by
  unfold most
  rw [List.take_succ_eq_append_getElem h, List.foldl_append, ig_lt h]
  rfl
theorem most_first (l : List Int) (h : 0 < l.length) (h0 : 0 ≤ ig l 0) : most (l.take 1) = ig l 0 := by
  rw [most_take l h, List.take_zero]
  change max 0 (ig l 0) = ig l 0
  omega
set_option maxHeartbeats 1000000 in
theorem smax_any (l : List Int) (a : Option Addr) (cap : Nat) (w : World) (hL : Ints w a l) (hl : 0 < l.length) (hl2 : l.length ≤ 1000) (h0 : 0 ≤ ig l 0) :
    Calls Try.prog 42 #[.slice a l.length cap] w (RetS (.int .i64 (most l)) w) := by
  obtain ⟨ab, aoff, rfl, fa⟩ := hL.fam hl
  have f0 := fa 0 hl
  have hm1 := most_first l hl h0
  have HM := Lib.hid hm1
  clear hm1
  go_enter Try.func42, Try.ntmps42
  go_wp2
  go_loopg [3, 4] (l.length + 1) (fun k v3 v4 wr => ∃ q : Nat, 1 ≤ q ∧ q ≤ l.length ∧ k + q = l.length + 2 ∧ Value.int .i64 (most (l.take q)) = v3 ∧ v4 = .int .i64 q ∧ w = wr)
  case atStart => exact ⟨1, by omega, by omega, by omega, by rw [HM.out], rfl, rfl⟩
  case round =>
    obtain ⟨q, hq1, hq, hk, rfl, rfl, rfl⟩ := hrel
    by_cases hlt : q < l.length
    · have hc := fa q hlt
      have hs := most_take l hlt
      have HS := Lib.hid hs
      clear hs
      go_wp2
      go_roundg (gk - 1)
      case measure => omega
      case rel => exact ⟨q + 1, by omega, by omega, by omega, by rw [HS.out], by go_num, rfl⟩
    · have hs : most (l.take q) = most l := by rw [List.take_of_length_le (by omega)]
      have HS := Lib.hid hs
      clear hs
      go_wp2
      go_ret
      exact retS (vint HS.out)
end Go.Proofs.Ytoblmecgnpoogaa

