
/- Package judge: slices.Contains; the law of the worklist, plain. -/
import Derived.Test.YtgccankekflchaaJdgK
namespace Go.Proofs.Ytgccankekflchaa
open Go.RowKit

def firstAt (l : List Int) (c : Int) : Int := match l.findIdx? (fun x => x == c) with | some i => (i : Int) | none => -1
theorem firstAt_at {l : List Int} {c : Int} {i : Nat} (hi : i < l.length) (h : ∀ j, j < i → ig l j ≠ c) (h' : ig l i = c) : firstAt l c = i := by
  unfold firstAt
  have : l.findIdx? (fun x => x == c) = some i := by
    rw [List.findIdx?_eq_some_iff_getElem]
    refine ⟨hi, by rw [← ig_lt hi]; simpa using h', fun j hj => ?_⟩
    have := h j hj
    rw [ig_lt (by omega)] at this
    simp [this]
  rw [this]
theorem firstAt_none {l : List Int} {c : Int} (h : ∀ j, j < l.length → ig l j ≠ c) : firstAt l c = -1 := by
  unfold firstAt
  have : l.findIdx? (fun x => x == c) = none := by
    rw [List.findIdx?_eq_none_iff]
    intro x hx
    obtain ⟨j, hj, rfl⟩ := List.getElem_of_mem hx
    have := h j hj
    rw [ig_lt hj] at this
    simp [this]
  rw [this]
theorem firstAt_mem (l : List Int) (c : Int) : decide ((0 : Int) ≤ firstAt l c) = decide (c ∈ l) := by
  unfold firstAt
  cases h : l.findIdx? (fun x => x == c) with
  | none =>
    have : ¬ c ∈ l := by
      rw [List.findIdx?_eq_none_iff] at h
      intro hc
      have := h c hc
      simp at this
    rw [decide_eq_false this]
    rfl
  | some i =>
    have : c ∈ l := by
      rw [List.findIdx?_eq_some_iff_getElem] at h
      obtain ⟨hi, h1, _⟩ := h
      have : l[i] = c := by simpa using h1
      rw [← this]
      exact List.getElem_mem hi
    rw [decide_eq_true this]
    simp
set_option maxHeartbeats 1000000 in
theorem index_any (l : List Int) (c : Int) (a : Option Addr) (cap : Nat) (w : World) (hL : Ints w a l) (hl : l.length ≤ 1000000) :
    Calls Try.prog 53 #[.slice a l.length cap, .int .i64 c] w (RetS (.int .i64 (firstAt l c)) w) := by
  go_enter Try.func53, Try.ntmps53
  go_wp2
  go_loopg [8] (l.length + 1) (fun k v8 wr => ∃ q : Nat, q ≤ l.length ∧ k + q = l.length + 1 ∧ v8 = .int .i64 q ∧ w = wr ∧ ∀ r, r < q → ig l r ≠ c)
  case atStart => exact ⟨0, by omega, by omega, rfl, rfl, fun r hr => absurd hr (by omega)⟩
  case round =>
    obtain ⟨q, hq, hk, rfl, rfl, hall⟩ := hrel
    have HA := Lib.hid hall
    clear hall
    by_cases hlt : q < l.length
    · obtain ⟨ab, aoff, rfl, fa⟩ := hL.fam (by omega)
      have hcq := fa q hlt
      clear fa
      have z1 : (q : Int) < (l.length : Int) := by omega
      have z0 : (0 : Int) ≤ (q : Int) := by omega
      obtain ⟨u, hu⟩ : ∃ u, u = ig l q := ⟨_, rfl⟩
      rw [← hu] at hcq
      have HU := Lib.hid hu
      clear hu
      by_cases hd : c = u
      · subst hd
        go_wp2
        go_ret
        exact retS (vint (firstAt_at hlt HA.out HU.out.symm).symm)
      · have HD := Lib.hid hd
        have hd' : (c == u) = false := by simpa using hd
        clear hd
        go_wp2
        go_roundg (l.length - q)
        case measure => omega
        case rel => exact ⟨q + 1, by omega, by omega, by go_num, rfl, fun r hr => by
          rcases Nat.lt_succ_iff_lt_or_eq.1 hr with h | h
          · exact HA.out r h
          · subst h; rw [← HU.out]; exact fun e => HD.out e.symm⟩
    · go_wp2
      go_ret
      exact retS (vint (firstAt_none fun r hr => HA.out r (by omega)).symm)
theorem contains_any (l : List Int) (c : Int) (a : Option Addr) (cap : Nat) (w : World) (hL : Ints w a l) (hl : l.length ≤ 1000000) :
    Calls Try.prog 36 #[.slice a l.length cap, .int .i64 c] w (RetS (.bool (decide (c ∈ l))) w) := by
  go_enter Try.func36, Try.ntmps36
  go_wp2_with fail
  refine Calls.mono (index_any l c a cap _ hL hl) ?_
  rintro e w1 ⟨rfl, rfl⟩
  go_wp2
  go_ret
  exact retS (vbool (firstAt_mem l c))

/-! ### the worklist -/
theorem okB_iff {plan : List Pos} {b : Int} {x : St} : okB plan b x = true ↔ okAt plan x b := by
  unfold okB okAt
  cases h : posAt plan x with
  | none => simp
  | some p =>
    simp only [Bool.and_eq_true, decide_eq_true_eq, Option.some.injEq]
    exact ⟨fun h => ⟨p, rfl, h⟩, fun ⟨q, e, h⟩ => by rw [e]; exact h⟩
theorem reachB_iff {plan : List Pos} {b : Int} {s : St} : reachB plan s b = true ↔ ∀ x ∈ madeL s, okAt plan x b := by
  unfold reachB
  rw [List.all_eq_true]
  exact ⟨fun h x hx => okB_iff.1 (h x hx), fun h x hx => okB_iff.2 (h x hx)⟩
theorem posAt_st {plan : List Pos} {s : St} {p : Pos} (h : posAt plan s = some p) : p ∈ plan ∧ p.st = s := by
  unfold posAt at h
  exact ⟨List.mem_of_find?_eq_some h, by have := List.find?_some h; simpa using this⟩
/-- what is known when the situations of T are left to do -/
structure WL (g : Gm) (plan : List Pos) (bound : Int) (D T : List St) : Prop where
  nd : D.Nodup
  tn : T.Nodup
  inv : ∀ s ∈ D, Inv g s
  rch : ∀ s ∈ D, Rch g plan s
  pos : ∀ s ∈ D, ∃ p, posAt plan s = some p ∧ 0 ≤ p.bound
  sub : ∀ s ∈ T, s ∈ D
  clo : ∀ s ∈ D, s ∉ T → Node g plan s ∧ (s.turn + 1 ≠ g.deps.length → ∀ p, posAt plan s = some p → ∀ x ∈ madeL (afterS s p.choice), x ∈ D)
  beg : ∀ x ∈ madeL (beginS g), x ∈ D ∧ okAt plan x bound
theorem nodup_len {D l : List St} (hn : D.Nodup) (hs : ∀ s ∈ D, s ∈ l) : D.length ≤ l.length := by
  have key : ∀ (D l : List St), D.Nodup → (∀ s ∈ D, s ∈ l) → D.length ≤ l.length := by
    intro D
    induction D with
    | nil => intro l _ _; simp
    | cons x D ih =>
      intro l hn hs
      rw [List.nodup_cons] at hn
      obtain ⟨l1, l2, rfl⟩ := List.append_of_mem (hs x (by simp))
      have := ih (l1 ++ l2) hn.2 fun s hs' => by
        have h1 := hs s (by simp [hs'])
        simp only [List.mem_append, List.mem_cons] at h1 ⊢
        rcases h1 with h1 | h1 | h1
        · exact .inl h1
        · subst h1; exact absurd hs' hn.1
        · exact .inr h1
      simp at this ⊢
      omega
  exact key D l hn hs
theorem WL.len {g : Gm} {plan : List Pos} {bound : Int} {D T : List St} (h : WL g plan bound D T) : D.length ≤ plan.length := by
  have h1 : ∀ s ∈ D, s ∈ plan.map Pos.st := fun s hs => by
    obtain ⟨p, hp, _⟩ := h.pos s hs
    obtain ⟨h2, h3⟩ := posAt_st hp
    exact List.mem_map.2 ⟨p, h2, h3⟩
  have := nodup_len h.nd h1
  rwa [List.length_map] at this
theorem WL.tlen {g : Gm} {plan : List Pos} {bound : Int} {D T : List St} (h : WL g plan bound D T) : T.length ≤ plan.length := Nat.le_trans (nodup_len h.tn h.sub) h.len
theorem WL.start {g : Gm} {plan : List Pos} {bound : Int} (hv : VG g) (hd : g.deps ≠ []) (h : reachB plan (beginS g) bound = true) : WL g plan bound (fresh [] (madeL (beginS g))) (fresh [] (madeL (beginS g))) := by
  have hr := reachB_iff.1 h
  refine ⟨by simpa using fresh_nodup (D := []) (l := madeL (beginS g)) List.nodup_nil, by simpa using fresh_nodup (D := []) (l := madeL (beginS g)) List.nodup_nil, fun s hs => (Inv.begin hv hd).made (fresh_sub _ _ s hs), fun s hs => .first (fresh_sub _ _ s hs), fun s hs => ?_, fun s hs => hs, fun s hs h' => absurd hs h', fun x hx => ⟨by simpa using fresh_all [] _ x hx, hr x hx⟩⟩
  obtain ⟨p, hp, h0, _⟩ := hr s (fresh_sub _ _ s hs)
  exact ⟨p, hp, h0⟩
/-- the last one of T was the last turn's -/
theorem WL.last {g : Gm} {plan : List Pos} {bound : Int} {D T : List St} {s : St} {p : Pos} (h : WL g plan bound D (T ++ [s])) (hp : posAt plan s = some p) (hc : can g s p.choice) (ht : s.turn + 1 = g.deps.length) (hb : lostP p ≤ p.bound) : WL g plan bound D T := by
  refine ⟨h.nd, (List.nodup_append.1 h.tn).1, h.inv, h.rch, h.pos, fun x hx => h.sub x (by simp [hx]), fun x hx hx' => ?_, h.beg⟩
  by_cases e : x = s
  · subst e
    exact ⟨⟨p, hp, hc, fun _ => hb, fun h' => absurd ht h'⟩, fun h' => absurd ht h'⟩
  · exact h.clo x hx (by simp [hx', e])
theorem WL.next {g : Gm} {plan : List Pos} {bound : Int} {D T : List St} {s : St} {p : Pos} (h : WL g plan bound D (T ++ [s])) (hp : posAt plan s = some p) (hc : can g s p.choice) (ht : s.turn + 1 ≠ g.deps.length) (hr : reachB plan (afterS s p.choice) (p.bound - lostP p) = true) :
    WL g plan bound (D ++ fresh D (madeL (afterS s p.choice))) (T ++ fresh D (madeL (afterS s p.choice))) := by
  have hr' := reachB_iff.1 hr
  have hsD : s ∈ D := h.sub s (by simp)
  have hs : Inv g s := h.inv s hsD
  have hn : Inv g (afterS s p.choice) := hs.after hc ht
  refine ⟨fresh_nodup h.nd, ?_, fun x hx => ?_, fun x hx => ?_, fun x hx => ?_, fun x hx => ?_, fun x hx hx' => ?_, fun x hx => ⟨List.mem_append_left _ (h.beg x hx).1, (h.beg x hx).2⟩⟩
  · have h1 := List.nodup_append.1 (fresh_nodup h.nd (l := madeL (afterS s p.choice)))
    refine List.nodup_append.2 ⟨(List.nodup_append.1 h.tn).1, h1.2.1, fun a ha b hb => h1.2.2 a (h.sub a (by simp [ha])) b hb⟩
  · rcases List.mem_append.1 hx with hx | hx
    · exact h.inv x hx
    · exact hn.made (fresh_sub _ _ x hx)
  · rcases List.mem_append.1 hx with hx | hx
    · exact h.rch x hx
    · exact .next (h.rch s hsD) hp ht (fresh_sub _ _ x hx)
  · rcases List.mem_append.1 hx with hx | hx
    · exact h.pos x hx
    · obtain ⟨q, hq, h0, _⟩ := hr' x (fresh_sub _ _ x hx)
      exact ⟨q, hq, h0⟩
  · rcases List.mem_append.1 hx with hx | hx
    · exact List.mem_append_left _ (h.sub x (by simp [hx]))
    · exact List.mem_append_right _ hx
  · have hx1 : x ∉ T := fun h => hx' (List.mem_append_left _ h)
    have hx2 : x ∉ fresh D (madeL (afterS s p.choice)) := fun h => hx' (List.mem_append_right _ h)
    have hxD : x ∈ D := by
      rcases List.mem_append.1 hx with h | h
      · exact h
      · exact absurd h hx2
    by_cases e : x = s
    · subst e
      refine ⟨⟨p, hp, hc, fun h' => absurd h' ht, fun _ => hr'⟩, fun _ q hq y hy => ?_⟩
      rw [hp] at hq
      cases hq
      exact fresh_all D _ y hy
    · obtain ⟨h1, h2⟩ := h.clo x hxD (by simp [hx1, e])
      exact ⟨h1, fun h3 q hq y hy => List.mem_append_left _ (h2 h3 q hq y hy)⟩
theorem WL.acc {g : Gm} {plan : List Pos} {bound : Int} {D : List St} (hv : VG g) (hd : g.deps ≠ []) (h : WL g plan bound D []) : Acc g plan bound := by
  refine ⟨hv, fun e => absurd e hd, fun _ => ⟨fun x hx => (h.beg x hx).2, fun s hs => ?_⟩⟩
  have : ∀ s, Rch g plan s → s ∈ D := fun s hs => by
    induction hs with
    | first hx => exact (h.beg _ hx).1
    | next _ hp ht hx ih => exact (h.clo _ ih (by simp)).2 ht _ hp _ hx
  exact (h.clo s (this s hs) (by simp)).1
theorem afterS_none (s : St) : afterS s (-1) = { s with turn := s.turn + 1 } := by unfold afterS; rfl
theorem afterS_some (s : St) (q : Nat) : afterS s (q : Int) = { s with turn := s.turn + 1, starts := s.starts.set q (ig s.starts q - 1) } := by
  unfold afterS
  rw [if_pos (by omega)]
  rfl
theorem acc_no_reach {g : Gm} {plan : List Pos} {bound : Int} (hd : g.deps ≠ []) (h : reachB plan (beginS g) bound = false) : ¬ Acc g plan bound := fun ha => by
  rw [reachB_iff.2 (ha.2.2 hd).1] at h
  cases h
theorem acc_no_node {g : Gm} {plan : List Pos} {bound : Int} (hd : g.deps ≠ []) {s : St} (hs : Rch g plan s) (h : ¬ Node g plan s) : ¬ Acc g plan bound := fun ha => h ((ha.2.2 hd).2 s hs)
theorem node_no_can {g : Gm} {plan : List Pos} {s : St} {p : Pos} (hp : posAt plan s = some p) (h : ¬ can g s p.choice) : ¬ Node g plan s := fun ⟨q, hq, hc, _⟩ => by
  rw [hp] at hq; cases hq; exact h hc
theorem node_no_bound {g : Gm} {plan : List Pos} {s : St} {p : Pos} (hp : posAt plan s = some p) (ht : s.turn + 1 = g.deps.length) (h : ¬ lostP p ≤ p.bound) : ¬ Node g plan s := fun ⟨q, hq, _, hb, _⟩ => by
  rw [hp] at hq; cases hq; exact h (hb ht)
theorem node_no_reach {g : Gm} {plan : List Pos} {s : St} {p : Pos} (hp : posAt plan s = some p) (ht : s.turn + 1 ≠ g.deps.length) (h : reachB plan (afterS s p.choice) (p.bound - lostP p) = false) : ¬ Node g plan s := fun ⟨q, hq, _, _, hr⟩ => by
  rw [hp] at hq; cases hq
  rw [reachB_iff.2 (hr ht)] at h
  cases h
theorem VG.nodep {g : Gm} {plan : List Pos} {bound : Int} (hv : VG g) (hd : g.deps = []) : Acc g plan bound ↔ 0 ≤ bound := ⟨fun h => h.2.1 hd, fun h => ⟨hv, fun _ => h, fun h' => absurd hd h'⟩⟩
end Go.Proofs.Ytgccankekflchaa

