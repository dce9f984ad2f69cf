

/- Package judge: what the closure 'reach' works on. -/
import Derived.Test.YtgccankekflchaaJdgH
import Derived.Test.YtgccankekflchaaChg
import Derived.Maps.OwnOps
namespace Go.Proofs.Ytgccankekflchaa
open Go.RowKit

/-- the map of positions: for each situation the first position -/
def PosMap (f : Value → Option Value) (plan : List Pos) : Prop := ∀ s, Fit6 s → match posAt plan s with
  | none => f (sitV s) = none
  | some p => ∃ sa sc fa fc, f (sitV s) = some (psV p sa sc fa fc)
/-- the map of what was reached -/
noncomputable def doneF (D : List St) : Value → Option Value := open Classical in fun v => if ∃ s ∈ D, sitV s = v then some (.bool true) else none
theorem doneF_nil (v : Value) : doneF [] v = none := by unfold doneF; rw [if_neg (by simp)]
theorem doneF_in {D : List St} {x : St} (h : x ∈ D) : doneF D (sitV x) = some (.bool true) := by unfold doneF; rw [if_pos ⟨x, h, rfl⟩]
theorem doneF_out {D : List St} {x : St} (hx : Fit6 x) (hD : ∀ s ∈ D, Fit6 s) (h : x ∉ D) : doneF D (sitV x) = none := by
  unfold doneF
  rw [if_neg]
  rintro ⟨s, hs, e⟩
  exact h (sitV_inj (hD s hs) hx e ▸ hs)
theorem doneF_put (D : List St) (x : St) (v : Value) : putF (doneF D) (sitV x) (.bool true) v = doneF (D ++ [x]) v := by
  by_cases h : v = sitV x
  · subst h
    rw [putF_at, doneF_in (by simp)]
  · rw [putF_ne _ _ h]
    unfold doneF
    have : (∃ s ∈ D, sitV s = v) ↔ ∃ s ∈ D ++ [x], sitV s = v := by
      constructor
      · rintro ⟨s, hs, e⟩; exact ⟨s, by simp [hs], e⟩
      · rintro ⟨s, hs, e⟩
        rcases List.mem_append.1 hs with hs | hs
        · exact ⟨s, hs, e⟩
        · obtain rfl : s = x := by simpa using hs
          exact absurd e.symm h
    by_cases h' : ∃ s ∈ D, sitV s = v
    · rw [if_pos h', if_pos (this.1 h')]
    · rw [if_neg h', if_neg fun h2 => h' (this.2 h2)]
theorem snoc_ind {α : Type} {P : List α → Prop} (h0 : P []) (hs : ∀ l x, P l → P (l ++ [x])) (l : List α) : P l := by
  have : ∀ r : List α, P r.reverse := fun r => by
    induction r with
    | nil => exact h0
    | cons x r ih => rw [List.reverse_cons]; exact hs _ _ ih
  simpa using this l.reverse
/-- those of l that are not in D, each once -/
def fresh (D l : List St) : List St := l.foldl (fun acc x => if x ∈ D ++ acc then acc else acc ++ [x]) []
theorem fresh_nil (D : List St) : fresh D [] = [] := rfl
theorem fresh_snoc (D l : List St) (x : St) : fresh D (l ++ [x]) = if x ∈ D ++ fresh D l then fresh D l else fresh D l ++ [x] := by
  unfold fresh
  rw [List.foldl_append]
  rfl
theorem fresh_sub (D l : List St) : ∀ x ∈ fresh D l, x ∈ l := by
  induction l using snoc_ind with
  | h0 => simp [fresh_nil]
  | hs l x ih =>
    intro y hy
    rw [fresh_snoc] at hy
    split at hy
    · exact List.mem_append_left _ (ih y hy)
    · rcases List.mem_append.1 hy with h | h
      · exact List.mem_append_left _ (ih y h)
      · exact List.mem_append_right _ h
theorem fresh_all (D l : List St) : ∀ x ∈ l, x ∈ D ++ fresh D l := by
  induction l using snoc_ind with
  | h0 => simp
  | hs l x ih =>
    intro y hy
    rw [fresh_snoc]
    rcases List.mem_append.1 hy with h | h
    · split
      · exact ih y h
      · have := ih y h
        rw [← List.append_assoc]
        exact List.mem_append_left _ this
    · obtain rfl : y = x := by simpa using h
      split
      · assumption
      · simp
theorem fresh_len (D l : List St) : (fresh D l).length ≤ l.length := by
  induction l using snoc_ind with
  | h0 => simp [fresh_nil]
  | hs l x ih =>
    rw [fresh_snoc]
    split <;> simp <;> omega
theorem fresh_nodup {D l : List St} (hD : D.Nodup) : (D ++ fresh D l).Nodup := by
  induction l using snoc_ind with
  | h0 => simpa [fresh_nil] using hD
  | hs l x ih =>
    rw [fresh_snoc]
    split
    · exact ih
    · rename_i h
      rw [← List.append_assoc, List.nodup_append]
      refine ⟨ih, by simp, ?_⟩
      intro a ha b hb
      obtain rfl : b = x := by simpa using hb
      rintro rfl
      exact h ha

/-- the ten cells of an element -/
structure SitAt (w : World) (b o : Nat) (s : St) : Prop where
  c0 : w.cell? ⟨b, o, none⟩ = some (.int .i64 s.turn)
  c1 : w.cell? ⟨b, o + 1, none⟩ = some (.int .i64 s.budget)
  c2 : w.cell? ⟨b, o + 2, none⟩ = some (.int .i64 s.starts.length)
  c3 : w.cell? ⟨b, o + 3, none⟩ = some (.int .i64 (ig s.starts 0))
  c4 : w.cell? ⟨b, o + 4, none⟩ = some (.int .i64 (ig s.starts 1))
  c5 : w.cell? ⟨b, o + 5, none⟩ = some (.int .i64 (ig s.starts 2))
  c6 : w.cell? ⟨b, o + 6, none⟩ = some (.int .i64 (ig s.starts 3))
  c7 : w.cell? ⟨b, o + 7, none⟩ = some (.int .i64 (ig s.starts 4))
  c8 : w.cell? ⟨b, o + 8, none⟩ = some (.int .i64 (ig s.starts 5))
  c9 : w.cell? ⟨b, o + 9, none⟩ = some (.int .i64 (bitsU s.failed s.failed.length))
theorem flat_at (l : List St) : ∀ k (hk : k < l.length) c, c < 10 → (l.flatMap sitC)[k * 10 + c]? = (sitC l[k])[c]? := by
  induction l with
  | nil => intro k hk; simp at hk
  | cons s l ih =>
    intro k hk c hc
    rw [List.flatMap_cons]
    cases k with
    | zero => rw [List.getElem?_append_left (by rw [sitC_len]; omega)]; simp
    | succ k =>
      rw [List.getElem?_append_right (by rw [sitC_len]; omega), sitC_len, show (k + 1) * 10 + c - 10 = k * 10 + c by omega]
      exact ih k (by simpa using hk) c hc
theorem OwnS.fam {w : World} {B : Nat} {v : Value} {l : List St} (h : OwnS w B v l) (hl : 0 < l.length) :
    ∃ g cap, v = .slice (some ⟨g, 0, none⟩) l.length cap ∧ B ≤ g ∧ ∀ k (hk : k < l.length), SitAt w g (k * 10) l[k] := by
  have h' := h
  obtain ⟨h1, ⟨_, h2⟩ | ⟨g, cap, cur, rfl, hb, _⟩⟩ := h
  · omega
  · refine ⟨g, cap, rfl, hb, fun k hk => ?_⟩
    have key : ∀ c u, c < 10 → (sitC l[k])[c]? = some u → w.cell? ⟨g, k * 10 + c, none⟩ = some u := fun c u hc hu => by
      rw [World.ownsRow.cellAt h' (k * 10 + c) (by omega), flat_at l k hk c hc]
      exact hu
    exact ⟨key 0 _ (by omega) rfl, key 1 _ (by omega) rfl, key 2 _ (by omega) rfl, key 3 _ (by omega) rfl, key 4 _ (by omega) rfl, key 5 _ (by omega) rfl, key 6 _ (by omega) rfl, key 7 _ (by omega) rfl, key 8 _ (by omega) rfl, key 9 _ (by omega) rfl⟩
theorem SitAt.later {w w1 : World} {b o : Nat} {s : St} (h : SitAt w b o s) (hb : Below w.heap.size w w1) : SitAt w1 b o s :=
  ⟨cell_later hb h.c0, cell_later hb h.c1, cell_later hb h.c2, cell_later hb h.c3, cell_later hb h.c4, cell_later hb h.c5, cell_later hb h.c6, cell_later hb h.c7, cell_later hb h.c8, cell_later hb h.c9⟩
theorem SitAt.chg {S : Nat → Prop} {w w1 : World} {b o : Nat} {s : St} (h : SitAt w b o s) (hb : Chg S w w1) (hs : ¬ S b) : SitAt w1 b o s :=
  ⟨hb.cell h.c0 hs, hb.cell h.c1 hs, hb.cell h.c2 hs, hb.cell h.c3 hs, hb.cell h.c4 hs, hb.cell h.c5 hs, hb.cell h.c6 hs, hb.cell h.c7 hs, hb.cell h.c8 hs, hb.cell h.c9 hs⟩
abbrev psZ : Value := .agg #[.int .i64 0, .slice none 0 0, .slice none 0 0, .int .i64 0, .int .i64 0, .int .i64 0]
theorem zeroPs (w : World) : (zeroValue 57).run Try.prog w = .ok psZ w := by kernel_rfl
theorem zeroBl (w : World) : (zeroValue 4).run Try.prog w = .ok (.bool false) w := by kernel_rfl
end Go.Proofs.Ytgccankekflchaa

