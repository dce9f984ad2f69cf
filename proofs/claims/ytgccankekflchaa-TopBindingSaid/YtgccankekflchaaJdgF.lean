

/- Contracts of package judge: what the adversary makes of a situation. -/
import Derived.Test.YtgccankekflchaaJdgE
import Derived.OwnWalk
import Derived.Laws.AppendOwn
namespace Go.Proofs.Ytgccankekflchaa
open Go.RowKit

theorem fit_of {p : Pos} (h6 : p.starts.length ≤ 6) (e : p.failed.length = p.starts.length) : Fit6 p.st := ⟨h6, e⟩
theorem sitOf_no (p : Pos) (sa fa : Option Addr) (sc fc : Nat) (w : World) (hf : ¬ Fit6 p.st) :
    Calls Try.prog 33 #[psV p sa sc fa fc] w (RetB (.tuple #[sit0 p, .bool false]) w) :=
  (Nat.lt_or_ge 6 p.starts.length).elim (fun h6 => sitOf_no2 p sa fa sc fc w (Nat.not_le_of_lt h6)) (fun h6 => sitOf_no1 p sa fa sc fc w h6 (fun e => hf (fit_of h6 e)))

/-- the cells of a situation -/
def sitC (s : St) : List Value := [.int .i64 s.turn, .int .i64 s.budget, .int .i64 s.starts.length, .int .i64 (ig s.starts 0), .int .i64 (ig s.starts 1), .int .i64 (ig s.starts 2), .int .i64 (ig s.starts 3), .int .i64 (ig s.starts 4), .int .i64 (ig s.starts 5), .int .i64 (bitsU s.failed s.failed.length)]
theorem sitC_len (s : St) : (sitC s).length = 10 := rfl
theorem sitC_cells (l : List St) : (l.flatMap sitC).length = l.length * 10 := by
  induction l with
  | nil => rfl
  | cons s l ih => rw [List.flatMap_cons, List.length_append, ih, sitC_len, List.length_cons]; omega
theorem info_sit : (Try.prog.info? 76).map (fun i => (i.zero, i.size, i.bytes)) = some (some (sit10 0 0 0 0 0 0 0 0 0 0), 10, 80) := by kernel_rfl
/-- the slice v holds these situations, in a block of the call's own from B on -/
def OwnS (w : World) (B : Nat) (v : Value) (l : List St) : Prop := w.ownsRow B 76 10 v l.length (l.flatMap sitC)
def Hitting (s : St) (k : Nat) : List St := s :: ((List.range k).filter (fun v => !bg s.failed v)).map (hit s)
theorem hitting_succ (s : St) (k : Nat) : Hitting s (k + 1) = Hitting s k ++ if bg s.failed k then [] else [hit s k] := by
  unfold Hitting
  rw [List.range_succ, List.filter_append, List.map_append, List.cons_append]
  cases h : bg s.failed k <;> simp [h]
theorem hitting_all {s : St} (h : 0 < s.budget) : Hitting s s.failed.length = madeL s := by
  unfold Hitting madeL hits
  rw [if_pos h]
theorem hitting_none {s : St} (h : ¬ 0 < s.budget) : Hitting s 0 = madeL s := by
  unfold Hitting madeL hits
  rw [if_neg h]
  rfl
def MadeR (s : St) (w : World) (e : Ending) (w' : World) : Prop := ∃ v, e = .returned v ∧ OwnS w' (w.heap.size + 1) v (madeL s) ∧ Below w.heap.size w w'
theorem own_first (w : World) (s : St) (B : Nat) (hB : B ≤ w.heap.size) : OwnS (w.alloc (.cells (sitC s).toArray 76)) B (.slice (some ⟨w.heap.size, 0, none⟩) 1 1) [s] := by
  refine ⟨by simp [sitC_len], .inr ⟨w.heap.size, 1, (sitC s).toArray, rfl, hB, (MapKept.heap_alloc w _).1, by simp, by unfold maxLen; omega, rfl, ?_⟩⟩
  rfl
theorem OwnS.later {w w1 : World} {B : Nat} {v : Value} {l : List St} (h : OwnS w B v l) (hb : Below w.heap.size w w1) : OwnS w1 B v l :=
  World.ownsRow.kept h (show w.grownBy w1 none from ⟨hb.os, hb.tape, hb.output, hb.size, fun k hk _ => hb.block k hk⟩) (by cases v.ownBlock <;> simp)
set_option maxRecDepth 100000 in
set_option maxHeartbeats 4000000 in
theorem made_no (s : St) (w : World) (hf : Fit6 s) (hb : ¬ 0 < s.budget) : Calls Try.prog 35 #[sitV s] w (MadeR s w) := by
  have hm := hf.m
  have d1 : decide ((0 : Int) < s.budget) = false := decide_eq_false (fun h => hb (by omega))
  have HN := Lib.hid (hitting_none hb)
  clear hb
  unfold sitV
  go_enter Try.func35, Try.ntmps35
  go_wp2_with fail
  obtain ⟨wx, hwx⟩ : ∃ wx, wx = (w.alloc (Obj.cells #[.int .i64 s.turn, .int .i64 s.budget, .int .i64 s.starts.length, .int .i64 (ig s.starts 0), .int .i64 (ig s.starts 1), .int .i64 (ig s.starts 2), .int .i64 (ig s.starts 3), .int .i64 (ig s.starts 4), .int .i64 (ig s.starts 5), .int .i64 (bitsU s.failed s.failed.length)] 76)).alloc (Obj.cells #[.int .i64 s.turn, .int .i64 s.budget, .int .i64 s.starts.length, .int .i64 (ig s.starts 0), .int .i64 (ig s.starts 1), .int .i64 (ig s.starts 2), .int .i64 (ig s.starts 3), .int .i64 (ig s.starts 4), .int .i64 (ig s.starts 5), .int .i64 (bitsU s.failed s.failed.length)] 76) := ⟨_, rfl⟩
  rw [← hwx]
  have hbx : Below w.heap.size w wx := by rw [hwx]; exact (by repeat (first | exact Below.refl _ _ | assumption | refine Below.drew ?_ | refine below_drewN ?_ _ | refine Below.alloc ?_ (by first | omega | (simp; done) | (simp; omega)) _ | refine Below.setCell ?_ (by first | omega | (simp; done) | (simp; omega)) _ | refine Below.trans ?_ (Below.mono (by assumption) (by first | omega | (simp; done) | (simp; omega)))))
  have x1 : SitBox wx w.heap.size s.turn s.budget s.starts.length (ig s.starts 0) (ig s.starts 1) (ig s.starts 2) (ig s.starts 3) (ig s.starts 4) (ig s.starts 5) (bitsU s.failed s.failed.length) := by rw [hwx]; constructor <;> first | (simp [go_sem]; done) | (intro j _; simp [go_sem])
  have o1 : OwnS wx (w.heap.size + 1) (.slice (some ⟨w.heap.size + 1, 0, none⟩) 1 1) (Hitting s 0) := by
    have := own_first (w.alloc (Obj.cells #[.int .i64 s.turn, .int .i64 s.budget, .int .i64 s.starts.length, .int .i64 (ig s.starts 0), .int .i64 (ig s.starts 1), .int .i64 (ig s.starts 2), .int .i64 (ig s.starts 3), .int .i64 (ig s.starts 4), .int .i64 (ig s.starts 5), .int .i64 (bitsU s.failed s.failed.length)] 76)) s (w.heap.size + 1) (by simp)
    rw [World.size_alloc] at this
    rw [hwx]
    exact this
  clear hwx
  have X1 := Lib.hid x1
  have O1 := Lib.hid o1
  have c1 := x1.c1
  have c2 := x1.c2
  clear x1 o1
  by_cases h0 : 0 < s.starts.length
  · have d0 : decide ((0 : Int) < (s.starts.length : Int)) = true := decide_eq_true (by omega)
    go_loopg [3, 4] 1 (fun g v3 v4 wr => g = 1 ∧ v3 = .slice (some ⟨w.heap.size + 1, 0, none⟩) 1 1 ∧ v4 = .int .i64 0 ∧ wx = wr)
    case atStart => exact ⟨rfl, rfl, rfl, rfl⟩
    case round =>
      obtain ⟨rfl, rfl, rfl, rfl⟩ := hrel
      go_wp2_with fail
      go_ret
      exact ⟨_, rfl, by rw [← HN.out]; exact O1.out, hbx⟩
  · have d0 : decide ((0 : Int) < (s.starts.length : Int)) = false := decide_eq_false (by omega)
    go_loopg [3, 4] 1 (fun g v3 v4 wr => g = 1 ∧ v3 = .slice (some ⟨w.heap.size + 1, 0, none⟩) 1 1 ∧ v4 = .int .i64 0 ∧ wx = wr)
    case atStart => exact ⟨rfl, rfl, rfl, rfl⟩
    case round =>
      obtain ⟨rfl, rfl, rfl, rfl⟩ := hrel
      go_wp2_with fail
      go_ret
      exact ⟨_, rfl, by rw [← HN.out]; exact O1.out, hbx⟩
end Go.Proofs.Ytgccankekflchaa

