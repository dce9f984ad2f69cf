

/- Package game: the domain of states, what worst and best answer (plain), the memo. -/
import Derived.Test.YtgccankekflchaaGamD
namespace Go.Proofs.Ytgccankekflchaa
open Go.RowKit Go.Maps

/-- states of a game -/
structure Dom (g : Gm) (s : St) : Prop where
  ls : s.starts.length = g.starts.length
  lf : s.failed.length = g.starts.length
  t0 : 0 ≤ s.turn
  tn : s.turn ≤ g.deps.length
  b0 : s.budget ≤ g.budget
  b1 : 0 ≤ s.budget
  st : ∀ i, i < s.starts.length → 0 ≤ ig s.starts i ∧ ig s.starts i ≤ ig g.starts i
theorem Dom.fit {g : Gm} {s : St} (h : Dom g s) (hv : VG g) : Fit g.starts.length s := ⟨hv.1, h.ls, h.lf⟩
theorem ig_out {l : List Int} {i : Nat} (h : l.length ≤ i) : ig l i = 0 := by simp [ig, List.getD_eq_getElem?_getD, List.getElem?_eq_none h]
theorem Dom.sts {g : Gm} {s : St} (h : Dom g s) (hv : VG g) : StS s := by
  refine ⟨⟨h.t0, ?_⟩, fun i => ?_⟩
  · have := h.tn; have := hv.2.1; omega
  · by_cases hi : i < s.starts.length
    · have := h.st i hi
      have h2 := hv.2.2.2.2.1 i (by rw [← h.ls]; exact hi)
      omega
    · rw [ig_out (by omega)]; omega
theorem Dom.made {g : Gm} {s x : St} (h : Dom g s) (hx : x ∈ madeL s) : Dom g x := by
  rcases mem_made.1 hx with rfl | ⟨v, h1, h2, h3, rfl⟩
  · exact h
  · have h4 := h.b0
    exact ⟨h.ls, by show (s.failed.set v true).length = _; rw [List.length_set]; exact h.lf, h.t0, h.tn, by show s.budget - 1 ≤ _; omega, by show 0 ≤ s.budget - 1; omega, h.st⟩
theorem made_turn {s x : St} (hx : x ∈ madeL s) : x.turn = s.turn := by
  rcases mem_made.1 hx with rfl | ⟨v, h1, h2, h3, rfl⟩ <;> rfl
theorem Dom.after {g : Gm} {s : St} {c : Int} (h : Dom g s) (ht : s.turn < g.deps.length) (hc : c = -1 ∨ 0 < ig s.starts c.toNat) : Dom g (afterS s c) := by
  have h1 := h.t0
  refine ⟨?_, h.lf, by show 0 ≤ s.turn + 1; omega, by show s.turn + 1 ≤ _; omega, h.b0, h.b1, fun i hi => ?_⟩
  · show (if 0 ≤ c then s.starts.set c.toNat (ig s.starts c.toNat - 1) else s.starts).length = _
    split
    · rw [List.length_set]; exact h.ls
    · exact h.ls
  · have e : (afterS s c).starts = if 0 ≤ c then s.starts.set c.toNat (ig s.starts c.toNat - 1) else s.starts := rfl
    rw [e] at hi ⊢
    split at hi
    · rename_i h0
      rw [if_pos h0, ig_set]
      rw [List.length_set] at hi
      have h3 := h.st i hi
      split
      · rename_i h4
        obtain ⟨rfl, h5⟩ := h4
        rcases hc with rfl | h6
        · omega
        · omega
      · exact h3
    · rename_i h0
      rw [if_neg h0]
      exact h.st i hi
theorem Dom.begin {g : Gm} (hv : VG g) : Dom g (beginS g) :=
  ⟨rfl, List.length_replicate, Int.le_refl _, by show (0 : Int) ≤ _; omega, Int.le_refl _, hv.2.2.1, fun i hi => ⟨(hv.2.2.2.2.1 i hi).1, Int.le_refl _⟩⟩
/-- what worst and best answer -/
def WG (g : Gm) (s : St) : Int := wv g (g.deps.length - s.turn.toNat) s
def BG (g : Gm) (s : St) : Int × Int := bvF g (WG g) s
theorem considerF_congr {w w' : St → Int} {x : St} (h : ∀ c, w (afterS x c) = w' (afterS x c)) : considerF w x = considerF w' x := by
  funext o v
  unfold considerF
  rw [h v]
theorem bvF_congr {g : Gm} {w w' : St → Int} {x : St} (h : ∀ c, w (afterS x c) = w' (afterS x c)) : bvF g w x = bvF g w' x := by
  unfold bvF
  rw [considerF_congr h, h (-1)]
theorem bvF_wv {g : Gm} {s : St} {k : Nat} (ht : 0 ≤ s.turn) (hk : g.deps.length - s.turn.toNat = k + 1) : bvF g (wv g k) s = BG g s := by
  unfold BG
  refine bvF_congr fun c => ?_
  unfold WG
  have e : (afterS s c).turn = s.turn + 1 := rfl
  rw [e, show g.deps.length - (s.turn + 1).toNat = k by omega]
theorem WG_end {g : Gm} {s : St} (h : (g.deps.length : Int) ≤ s.turn) : WG g s = 0 := by
  unfold WG
  rw [show g.deps.length - s.turn.toNat = 0 by omega]
  rfl
theorem WG_on {g : Gm} {s : St} (h0 : 0 ≤ s.turn) (h : s.turn < g.deps.length) : WG g s = maxL ((madeL s).map fun x => (BG g x).2) := by
  unfold WG
  obtain ⟨k, hk⟩ : ∃ k, g.deps.length - s.turn.toNat = k + 1 := ⟨g.deps.length - s.turn.toNat - 1, by omega⟩
  rw [hk]
  show maxL ((madeL s).map fun x => (bvF g (wv g k) x).2) = _
  congr 1
  refine List.map_congr_left fun x hx => ?_
  have e := made_turn hx
  rw [bvF_wv (by omega) (by rw [e]; exact hk)]
theorem maxL_snoc (l : List Int) (v : Int) : maxL (l ++ [v]) = max (maxL l) v := by unfold maxL; rw [List.foldl_append]; rfl
theorem maxL_in {l : List Int} {b : Int} (h : ∀ x ∈ l, 0 ≤ x ∧ x ≤ b) (hb : 0 ≤ b) : 0 ≤ maxL l ∧ maxL l ≤ b := by
  unfold maxL
  suffices hh : ∀ (l : List Int) (a : Int), 0 ≤ a → a ≤ b → (∀ x ∈ l, 0 ≤ x ∧ x ≤ b) → 0 ≤ l.foldl max a ∧ l.foldl max a ≤ b from hh l 0 (Int.le_refl _) hb h
  intro l
  induction l with
  | nil => intro a h1 h2 _; exact ⟨h1, h2⟩
  | cons y l ih =>
    intro a h1 h2 h3
    have h4 := h3 y (by simp)
    exact ih (max a y) (by omega) (by omega) fun x hx => h3 x (by simp [hx])
theorem bvF_in {g : Gm} {w : St → Int} {x : St} {b : Int} (h : ∀ s, 0 ≤ w s ∧ w s ≤ b) : 0 ≤ (bvF g w x).2 ∧ (bvF g w x).2 ≤ b + 1 := by
  unfold bvF
  suffices hh : ∀ (l : List Int) (o : Int × Int), 0 ≤ o.2 → o.2 ≤ b + 1 → 0 ≤ (l.foldl (considerF w x) o).2 ∧ (l.foldl (considerF w x) o).2 ≤ b + 1 from by
    have := h (afterS x (-1))
    exact hh _ _ (by show 0 ≤ 1 + w (afterS x (-1)); omega) (by show 1 + w (afterS x (-1)) ≤ _; omega)
  intro l
  induction l with
  | nil => intro o h1 h2; exact ⟨h1, h2⟩
  | cons v l ih =>
    intro o h1 h2
    have := h (afterS x v)
    have : 0 ≤ (considerF w x o v).2 ∧ (considerF w x o v).2 ≤ b + 1 := by
      unfold considerF
      split
      · split
        · exact ⟨by show 0 ≤ w (afterS x v); omega, by show w (afterS x v) ≤ _; omega⟩
        · exact ⟨h1, h2⟩
      · exact ⟨h1, h2⟩
    exact ih _ this.1 this.2
theorem wv_in (g : Gm) : ∀ (k : Nat) (s : St), 0 ≤ wv g k s ∧ wv g k s ≤ k
  | 0, _ => ⟨Int.le_refl _, Int.le_refl _⟩
  | k + 1, s => by
    refine maxL_in (fun y hy => ?_) (by omega)
    obtain ⟨x, _, rfl⟩ := List.mem_map.1 hy
    have := bvF_in (g := g) (w := wv g k) (x := x) (b := k) (wv_in g k)
    exact ⟨this.1, by omega⟩
theorem WG_in {g : Gm} (hv : VG g) (s : St) : 0 ≤ WG g s ∧ WG g s ≤ 12 := by
  have := wv_in g (g.deps.length - s.turn.toNat) s
  have := hv.2.1
  unfold WG
  omega
/-- a position that tells choice and bound alone -/
abbrev cbV (o : Int × Int) : Value := .agg #[.int .i64 0, .slice none 0 0, .slice none 0 0, .int .i64 0, .int .i64 o.1, .int .i64 o.2]
abbrev cbC (o : Int × Int) : List Value := [.int .i64 0, .slice none 0 0, .slice none 0 0, .int .i64 0, .int .i64 o.1, .int .i64 o.2]
def MemoF (g : Gm) (f : Value → Option Value) : Prop := ∀ x v, f x = some v → ∃ s, Dom g s ∧ s.turn < g.deps.length ∧ x = stV s ∧ v = cbV (BG g s)
structure Memo (g : Gm) (w : World) (M : Nat) : Prop where
  h : ∃ n f, MapIs Try.prog 47 w M n f ∧ MemoF g f
theorem Memo.lt {g : Gm} {w : World} {M : Nat} (h : Memo g w M) : M < w.heap.size := by
  obtain ⟨n, f, hm, _⟩ := h.h
  exact hm.lt
theorem Memo.same {g : Gm} {w w' : World} {M : Nat} (h : Memo g w M) (e : w'.heap[M]? = w.heap[M]?) : Memo g w' M := by
  obtain ⟨n, f, hm, hf⟩ := h.h
  exact ⟨n, f, hm.block e, hf⟩
theorem Memo.chg {g : Gm} {S : Nat → Prop} {w w' : World} {M : Nat} (h : Memo g w M) (hc : Chg S w w') (hs : ¬ S M) : Memo g w' M := h.same (hc.block M h.lt hs)
theorem Memo.later {g : Gm} {w w' : World} {M : Nat} (h : Memo g w M) (hb : Below w.heap.size w w') : Memo g w' M := h.same (hb.block M h.lt)
theorem Memo.noCells {g : Gm} {w : World} {M k o : Nat} {v : Value} (h : Memo g w M) (hc : w.cell? ⟨k, o, none⟩ = some v) : k ≠ M := by
  rintro rfl
  obtain ⟨n, f, ⟨es, cl, hb, _⟩, _⟩ := h.h
  simp [World.cell?, hb] at hc
theorem ints_chg {S : Nat → Prop} {w w' : World} {a : Option Addr} {l : List Int} (h : Ints w a l) (hc : Chg S w w') (hs : ∀ k o v, S k → w.cell? ⟨k, o, none⟩ ≠ some v) : Ints w' a l := fun i hi => by
  obtain ⟨b, off, ha, hcl⟩ := h i hi
  exact ⟨b, off, ha, hc.cell hcl fun hk => hs _ _ _ hk hcl⟩
theorem GmAt.chg {S : Nat → Prop} {w w' : World} {g : Gm} {sa da : Option Addr} (h : GmAt w g sa da) (hc : Chg S w w') (hs : ∀ k o v, S k → w.cell? ⟨k, o, none⟩ ≠ some v) : GmAt w' g sa da :=
  ⟨ints_chg h.s hc hs, fun i hi => by
    obtain ⟨b, off, ra, rc, ha, hcl, hI⟩ := h.d i hi
    exact ⟨b, off, ra, rc, ha, hc.cell hcl (fun hk => hs _ _ _ hk hcl), ints_chg hI hc hs⟩⟩
theorem GmAt.memo {w w' : World} {g g' : Gm} {sa da : Option Addr} {M : Nat} (h : GmAt w g sa da) (hc : Chg (fun k => k = M) w w') (hm : Memo g' w M) : GmAt w' g sa da :=
  h.chg hc fun _ _ _ hk hcl => hm.noCells hcl hk
def WorstC (g : Gm) (sa : Option Addr) (sc : Nat) (da : Option Addr) (dc M : Nat) (s : St) : Prop := ∀ w, Memo g w M → GmAt w g sa da →
  Calls Try.prog 30 #[bdV g sa sc da dc M, stV s] w fun e w' => e = .returned (.int .i64 (WG g s)) ∧ Chg (fun k => k = M) w w' ∧ Memo g w' M
def BestC (g : Gm) (sa : Option Addr) (sc : Nat) (da : Option Addr) (dc M : Nat) (s : St) : Prop := ∀ w, Memo g w M → GmAt w g sa da →
  Calls Try.prog 18 #[bdV g sa sc da dc M, stV s] w fun e w' => e = .returned (cbV (BG g s)) ∧ Chg (fun k => k = M) w w' ∧ Memo g w' M
end Go.Proofs.Ytgccankekflchaa

