
/- Package shop: what Plan's world holds. -/
import Derived.Test.YtoblmecgnpoogaaShpG
import Derived.Test.YtoblmecgnpoogaaShpM
import Derived.Test.YtoblmecgnpoogaaShpN
import Derived.Test.YtoblmecgnpoogaaShpP
namespace Go.Proofs.Ytoblmecgnpoogaa
open Go.RowKit

structure Blk where
  P3 : Nat
  A : Nat
  Bg : Nat
  Dn : Nat
  Pd : Nat
  M : Nat
  Y : Nat
def Blk.l (k : Blk) : List Nat := [k.P3, k.A, k.Bg, k.Dn, k.Pd, k.M, k.Y]
/-- the blocks that stay where they are -/
structure Fix (w : World) (B : Nat) (k : Blk) (sa : Option Addr) (q sc : Nat) (bs : Int) (st : List Int) (be dn : List Bool) (x : Ld) : Prop where
  nd : k.l.Nodup
  lo : ∀ b ∈ k.l, B ≤ b
  lt : ∀ b ∈ k.l, b < w.heap.size
  c30 : w.cell? ⟨k.P3, 0, none⟩ = some (.slice sa q sc)
  c31 : w.cell? ⟨k.P3, 1, none⟩ = some (.int .i64 bs)
  stO : OwnI w B (.slice (some ⟨k.A, 0, none⟩) st.length st.length) st
  beO : OwnB w B k.Bg be
  dnO : OwnB w B k.Dn dn
  pd : BoxAt w k.Pd [.slice (some ⟨k.Dn, 0, none⟩) dn.length dn.length]
  y : BoxAt w k.Y (ldC x)
section
variable {w w' : World} {B : Nat} {k : Blk} {sa : Option Addr} {q sc : Nat} {bs : Int} {st : List Int} {be dn : List Bool} {x : Ld} {S : Nat → Prop}
theorem BoxAt.chg {n : Nat} {cs : List Value} (h : BoxAt w n cs) (hc : Chg S w w') (hn : ¬ S n) (hl : n < w.heap.size) : BoxAt w' n cs := fun o v ho => by
  obtain ⟨h1, h2⟩ := h o v ho
  exact ⟨hc.cell h1 hn, (hc.frozen hl hn).trans h2⟩
theorem Fix.chg (h : Fix w B k sa q sc bs st be dn x) (hc : Chg S w w') (hS : ∀ b ∈ k.l, ¬ S b) : Fix w' B k sa q sc bs st be dn x := by
  have own : ∀ {v : Value} {b : Nat}, v.ownBlock = some b → b ∈ k.l → ∀ j, v.ownBlock = some j → ¬ S j := fun h1 h2 j hj => by rw [h1] at hj; cases hj; exact hS _ h2
  exact ⟨h.nd, h.lo, fun b hb => Nat.lt_of_lt_of_le (h.lt b hb) hc.size, hc.cell h.c30 (hS _ (by simp [Blk.l])), hc.cell h.c31 (hS _ (by simp [Blk.l])),
    hc.owns h.stO (own rfl (by simp [Blk.l])), hc.owns h.beO (own rfl (by simp [Blk.l])), hc.owns h.dnO (own rfl (by simp [Blk.l])),
    h.pd.chg hc (hS _ (by simp [Blk.l])) (h.lt _ (by simp [Blk.l])), h.y.chg hc (hS _ (by simp [Blk.l])) (h.lt _ (by simp [Blk.l]))⟩
theorem Fix.later (h : Fix w B k sa q sc bs st be dn x) (hb : Below w.heap.size w w') : Fix w' B k sa q sc bs st be dn x := h.chg (S := fun _ => False) (Chg.of_below hb) fun _ _ hf => hf
theorem Fix.ne (h : Fix w B k sa q sc bs st be dn x) : (k.P3 ≠ k.A ∧ k.P3 ≠ k.Bg ∧ k.P3 ≠ k.Dn ∧ k.P3 ≠ k.Pd ∧ k.P3 ≠ k.M ∧ k.P3 ≠ k.Y) ∧ (k.A ≠ k.Bg ∧ k.A ≠ k.Dn ∧ k.A ≠ k.Pd ∧ k.A ≠ k.M ∧ k.A ≠ k.Y) ∧ (k.Bg ≠ k.Dn ∧ k.Bg ≠ k.Pd ∧ k.Bg ≠ k.M ∧ k.Bg ≠ k.Y) ∧ (k.Dn ≠ k.Pd ∧ k.Dn ≠ k.M ∧ k.Dn ≠ k.Y) ∧ (k.Pd ≠ k.M ∧ k.Pd ≠ k.Y) ∧ k.M ≠ k.Y := by
  have := h.nd
  simp only [Blk.l, List.nodup_cons, List.mem_cons, List.not_mem_nil, or_false, not_or, List.nodup_nil, and_true, not_false_eq_true] at this
  omega
theorem chg_one (w : World) (p : Addr) (u : Value) : Chg (fun j => j = p.block) w (w.setCell p u) := Chg.setCell (S := fun j => j = p.block) (p := p) (Chg.refl _ w) (fun _ => rfl) u
theorem OwnI.offP {w : World} {B : Nat} {v : Value} {l : List Int} (h : OwnI w B v l) {b : Nat} (hv : v.ownBlock = some b) (hc : Chg S w w') (hb : ¬ S b) : OwnI w' B v l :=
  hc.owns h fun j hj => by rw [hv] at hj; cases hj; exact hb
theorem OwnB.offP {w : World} {B g : Nat} {l : List Bool} (h : OwnB w B g l) (hc : Chg S w w') (hb : ¬ S g) : OwnB w' B g l :=
  hc.owns h fun j hj => by simp [Value.ownBlock] at hj; subst hj; exact hb
theorem OwnI.set {w : World} {B g : Nat} {l : List Int} (h : OwnI w B (.slice (some ⟨g, 0, none⟩) l.length l.length) l) (j : Nat) (x : Int) : OwnI (w.setCell ⟨g, j, none⟩ (.int .i64 x)) B (.slice (some ⟨g, 0, none⟩) (l.set j x).length (l.set j x).length) (l.set j x) := by
  have k := (World.ownsRow.stored h j (.int .i64 x)).1
  unfold OwnI
  rw [List.map_set, List.length_set]
  exact k
theorem Fix.setY (h : Fix w B k sa q sc bs st be dn x) (y : Ld) : Fix (w.setCells k.Y 0 (ldC y)) B k sa q sc bs st be dn y := by
  obtain ⟨⟨_, _, _, _, _, a⟩, ⟨_, _, _, _, b⟩, ⟨_, _, _, c⟩, ⟨_, _, d⟩, ⟨_, e⟩, f⟩ := h.ne
  have hc : Chg (fun j => j = k.Y) w (w.setCells k.Y 0 (ldC y)) := chg_setCells (S := fun j => j = k.Y) (Chg.refl _ w) k.Y 0 _ (fun _ => rfl)
  exact ⟨h.nd, h.lo, fun b hb => Nat.lt_of_lt_of_le (h.lt b hb) hc.size, hc.cell h.c30 a, hc.cell h.c31 a, h.stO.offP rfl hc b, h.beO.offP hc c, h.dnO.offP hc d, h.pd.chg hc e (h.lt _ (by simp [Blk.l])), h.y.stored (vs := ldC y) rfl⟩
theorem Fix.setDn (h : Fix w B k sa q sc bs st be dn x) (m : Nat) (v : Bool) : Fix (w.setCell ⟨k.Dn, m, none⟩ (.bool v)) B k sa q sc bs st be (dn.set m v) x := by
  obtain ⟨⟨_, _, a, _, _, _⟩, ⟨_, b, _, _, _⟩, ⟨c, _, _, _⟩, ⟨d, _, e⟩, ⟨_, _⟩, f⟩ := h.ne
  have hc : Chg (fun j => j = k.Dn) w (w.setCell ⟨k.Dn, m, none⟩ (.bool v)) := chg_one w ⟨k.Dn, m, none⟩ _
  exact ⟨h.nd, h.lo, fun b hb => Nat.lt_of_lt_of_le (h.lt b hb) hc.size, hc.cell h.c30 a, hc.cell h.c31 a, h.stO.offP rfl hc b, h.beO.offP hc c, h.dnO.set m v, by rw [List.length_set]; exact h.pd.chg hc (fun e' => d e'.symm) (h.lt _ (by simp [Blk.l])), h.y.chg hc (fun e' => e e'.symm) (h.lt _ (by simp [Blk.l]))⟩
theorem Fix.setBg (h : Fix w B k sa q sc bs st be dn x) (m : Nat) (v : Bool) : Fix (w.setCell ⟨k.Bg, m, none⟩ (.bool v)) B k sa q sc bs st (be.set m v) dn x := by
  obtain ⟨⟨_, a, _, _, _, _⟩, ⟨b, _, _, _, _⟩, ⟨c, d, _, e⟩, _, _, _⟩ := h.ne
  have hc : Chg (fun j => j = k.Bg) w (w.setCell ⟨k.Bg, m, none⟩ (.bool v)) := chg_one w ⟨k.Bg, m, none⟩ _
  exact ⟨h.nd, h.lo, fun b hb => Nat.lt_of_lt_of_le (h.lt b hb) hc.size, hc.cell h.c30 a, hc.cell h.c31 a, h.stO.offP rfl hc b, h.beO.set m v, h.dnO.offP hc (fun e' => c e'.symm), h.pd.chg hc (fun e' => d e'.symm) (h.lt _ (by simp [Blk.l])), h.y.chg hc (fun e' => e e'.symm) (h.lt _ (by simp [Blk.l]))⟩
theorem Fix.setA (h : Fix w B k sa q sc bs st be dn x) (m : Nat) (v : Int) : Fix (w.setCell ⟨k.A, m, none⟩ (.int .i64 v)) B k sa q sc bs (st.set m v) be dn x := by
  obtain ⟨⟨a, _, _, _, _, _⟩, ⟨b, c, d, _, e⟩, _, _, _, _⟩ := h.ne
  have hc : Chg (fun j => j = k.A) w (w.setCell ⟨k.A, m, none⟩ (.int .i64 v)) := chg_one w ⟨k.A, m, none⟩ _
  exact ⟨h.nd, h.lo, fun b hb => Nat.lt_of_lt_of_le (h.lt b hb) hc.size, hc.cell h.c30 a, hc.cell h.c31 a, h.stO.set m v, h.beO.offP hc (fun e' => b e'.symm), h.dnO.offP hc (fun e' => c e'.symm), h.pd.chg hc (fun e' => d e'.symm) (h.lt _ (by simp [Blk.l])), h.y.chg hc (fun e' => e e'.symm) (h.lt _ (by simp [Blk.l]))⟩
end
end Go.Proofs.Ytoblmecgnpoogaa

