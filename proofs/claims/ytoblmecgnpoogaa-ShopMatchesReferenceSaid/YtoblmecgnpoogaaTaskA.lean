
/- Contracts of package task's small functions over this seat's program. -/
import Derived.Test.YtoblmecgnpoogaaProg
import Derived.Test.YtoblmecgnpoogaaData
namespace Go.Proofs.Ytoblmecgnpoogaa
open Go.RowKit

/-- a task -/
structure Tk where
  hours : Int
  skill : Int
  bay : Bool
  after : List Int
def tg (l : List Tk) (i : Nat) : Tk := l.getD i ⟨0, 0, false, []⟩
/-- a slice of tasks whose first one lies at 'a' reads as these -/
def Tasks (w : World) (a : Option Addr) (l : List Tk) : Prop := ∀ i, i < l.length → ∃ b off aa ac, a = some ⟨b, off, none⟩ ∧ w.cell? ⟨b, off + i * 4, none⟩ = some (.int .i64 (tg l i).hours) ∧ w.cell? ⟨b, off + i * 4 + 1, none⟩ = some (.int .i64 (tg l i).skill) ∧
  w.cell? ⟨b, off + i * 4 + 2, none⟩ = some (.bool (tg l i).bay) ∧ w.cell? ⟨b, off + i * 4 + 3, none⟩ = some (.slice aa (tg l i).after.length ac) ∧ Ints w aa (tg l i).after
theorem Tasks.later {w w1 : World} {a : Option Addr} {l : List Tk} (h : Tasks w a l) (hb : Below w.heap.size w w1) : Tasks w1 a l := fun i hi => by
  obtain ⟨b, off, aa, ac, ha, c0, c1, c2, c3, hI⟩ := h i hi
  exact ⟨b, off, aa, ac, ha, cell_later hb c0, cell_later hb c1, cell_later hb c2, cell_later hb c3, hI.later hb⟩

/-- all these tasks are done -/
def allDone (d : List Bool) (l : List Int) : Bool := l.all fun k => bg d k.toNat
def rdy (l : List Tk) (d : List Bool) (i : Nat) : Bool := !bg d i && allDone d (tg l i).after

theorem allDone_true {d : List Bool} {l : List Int} (h : ∀ r, r < l.length → bg d (ig l r).toNat = true) : allDone d l = true := by
  unfold allDone
  rw [List.all_eq_true]
  intro x hx
  obtain ⟨i, hi, rfl⟩ := List.getElem_of_mem hx
  have := h i hi
  rwa [ig_lt hi] at this
theorem allDone_false {d : List Bool} {l : List Int} {r : Nat} (hr : r < l.length) (h : bg d (ig l r).toNat = false) : allDone d l = false := by
  unfold allDone
  rw [List.all_eq_false]
  exact ⟨ig l r, ig_mem hr, by simpa using h⟩

set_option maxHeartbeats 1000000 in
theorem rready_any (l : List Tk) (d : List Bool) (i : Nat) (a da : Option Addr) (cap dc : Nat) (w : World) (hT : Tasks w a l) (hD : Bools w da d) (hn : l.length ≤ 1000) (hi : i < l.length) (hd : d.length = l.length) (han : (tg l i).after.length ≤ 1000)
    (hin : ∀ r, r < (tg l i).after.length → 0 ≤ ig (tg l i).after r ∧ ig (tg l i).after r < l.length) :
    Calls Try.prog 51 #[.slice a l.length cap, .slice da d.length dc, .int .i64 i] w (RetS (.bool (rdy l d i)) w) := by
  obtain ⟨db, doff, rfl, fd⟩ := hD.fam (by omega)
  obtain ⟨b, off, aa, ac, rfl, c0, c1, c2, c3, hI⟩ := hT i hi
  have hin' : i < d.length := by omega
  have HD := Lib.hid hd
  clear hd
  cases hdi : bg d i
  · have HX : ∀ x, allDone d (tg l i).after = x → rdy l d i = x := fun x hx => by unfold rdy; rw [hdi, hx]; rfl
    have HX := Lib.hid HX
    generalize hs : tg l i = t at *
    have HS := Lib.hid hs
    clear hs
    go_enter Try.func51, Try.ntmps51
    go_wp2
    go_loopg [7] (t.after.length + 1) (fun k v7 wr => ∃ q : Nat, q ≤ t.after.length ∧ k + q = t.after.length + 1 ∧ v7 = .int .i64 q ∧ w = wr ∧ ∀ r, r < q → bg d (ig t.after r).toNat = true)
    case atStart => exact ⟨0, by omega, by omega, rfl, rfl, fun r hr => absurd hr (by omega)⟩
    case round =>
      obtain ⟨q, hq, hk, rfl, rfl, hall⟩ := hrel
      have HA := Lib.hid hall
      clear hall
      by_cases hlt : q < t.after.length
      · obtain ⟨ab, aoff, rfl, fa⟩ := hI.fam (by omega)
        obtain ⟨g1, g2⟩ := hin q hlt
        obtain ⟨m, hm⟩ : ∃ m : Nat, ig t.after q = (m : Int) := ⟨(ig t.after q).toNat, by omega⟩
        have hml : m < d.length := by have := HD.out; omega
        have hcq : w.cell? ⟨ab, aoff + q, none⟩ = some (.int .i64 (m : Int)) := by rw [fa q hlt, hm]
        clear fa
        have HM := Lib.hid hm
        clear hm
        cases hdm : bg d m
        · go_wp2
          go_ret
          exact retS (vbool (HX.out _ (allDone_false hlt (by rw [HM.out]; simpa using hdm))).symm)
        · go_wp2
          go_roundg (gk - 1)
          case measure => omega
          case rel => exact ⟨q + 1, by omega, by omega, by go_num, rfl, fun r hr => by
            rcases Nat.lt_succ_iff_lt_or_eq.1 hr with h | h
            · exact HA.out r h
            · subst h; rw [HM.out]; simpa using hdm⟩
      · go_wp2
        go_ret
        exact retS (vbool (HX.out _ (allDone_true fun r hr => HA.out r (by omega))).symm)
  · have HX : rdy l d i = false := by unfold rdy; rw [hdi]; rfl
    rw [HX]
    go_enter Try.func51, Try.ntmps51
    go_wp2
    go_ret
    exact retS rfl
end Go.Proofs.Ytoblmecgnpoogaa

