/- Games, plans and their playing in plain terms; the small walks that the top rows share. -/
import Derived.Test.YtgccankekflchaaTM3
import Derived.Test.YtgccankekflchaaGamE
import Derived.Test.YtgccankekflchaaGamR
import Derived.Test.YtgccankekflchaaTM0
import Derived.Deep.Cut
import Derived.Test.YtgccankekflchaaJdgOpen
import Derived.Test.YtgccankekflchaaTM2
namespace Go.Proofs.Ytgccankekflchaa
open Go.RowKit Go.Maps

def runL {α : Type} (f : α → Except Int Int) : List α → List (α × Int) × Option Int
  | [] => ([], none)
  | a :: xa => match f a with
    | .error e => ([], some e)
    | .ok b => ((a, b) :: (runL f xa).1, (runL f xa).2)
theorem runL_cons {α : Type} (f : α → Except Int Int) (a : α) (xa : List α) : runL f (a :: xa) = match f a with
    | .error e => ([], some e)
    | .ok b => ((a, b) :: (runL f xa).1, (runL f xa).2) := rfl
theorem runL_append {α : Type} (f : α → Except Int Int) : ∀ (xa xb : List α), runL f (xa ++ xb) = match (runL f xa).2 with
    | some e => ((runL f xa).1, some e)
    | none => ((runL f xa).1 ++ (runL f xb).1, (runL f xb).2)
  | [], xb => rfl
  | a :: xa, xb => by
    rw [List.cons_append, runL_cons, runL_cons]
    cases h : f a with
    | error e => rfl
    | ok b =>
      simp only
      rw [runL_append f xa xb]
      cases h2 : (runL f xa).2 <;> rfl
theorem runL_map {α β : Type} (f : β → Except Int Int) (h : α → β) : ∀ (xa : List α), runL f (xa.map h) = ((runL (fun a => f (h a)) xa).1.map (fun x => (h x.1, x.2)), (runL (fun a => f (h a)) xa).2)
  | [] => rfl
  | a :: xa => by
    rw [List.map_cons, runL_cons, runL_cons]
    cases hf : f (h a) with
    | error e => rfl
    | ok b =>
      simp only
      rw [runL_map f h xa]
      rfl
theorem runL_congr {α : Type} {f g : α → Except Int Int} (h : ∀ a, f a = g a) (xa : List α) : runL f xa = runL g xa := by
  rw [show f = g from funext h]
def okV (r : Except Int Int) : Int := match r with | .ok n => n | .error _ => 0
theorem runL_ok {α : Type} {f : α → Except Int Int} : ∀ {xa : List α}, (runL f xa).2 = none → (∀ a ∈ xa, f a = .ok (okV (f a))) ∧ (runL f xa).1 = xa.map (fun a => (a, okV (f a)))
  | [], _ => ⟨fun _ h => (by cases h), rfl⟩
  | a :: xa, h => by
    rw [runL_cons] at h ⊢
    cases hf : f a with
    | error e => rw [hf] at h; cases h
    | ok b =>
      rw [hf] at h
      obtain ⟨h1, h2⟩ := runL_ok (xa := xa) h
      refine ⟨fun x hx => ?_, by simp only [List.map_cons, hf, h2]; rfl⟩
      rcases List.mem_cons.1 hx with rfl | hx
      · rw [hf]; rfl
      · exact h1 x hx
theorem runL_all {α : Type} {f : α → Except Int Int} : ∀ {xa : List α}, (∀ a ∈ xa, ∃ b, f a = .ok b) → (runL f xa).2 = none
  | [], _ => rfl
  | a :: xa, h => by
    obtain ⟨b, hb⟩ := h a (by simp)
    rw [runL_cons, hb]
    exact runL_all fun x hx => h x (by simp [hx])
theorem runL_err {α : Type} {f : α → Except Int Int} {e : Int} : ∀ {xa : List α}, (runL f xa).2 = some e → ∃ pre a post, xa = pre ++ a :: post ∧ f a = .error e ∧ ∀ x ∈ pre, ∃ b, f x = .ok b
  | [], h => by cases h
  | a :: xa, h => by
    rw [runL_cons] at h
    cases hf : f a with
    | error e' =>
      rw [hf] at h
      cases h
      exact ⟨[], a, xa, rfl, hf, fun _ h => (by cases h)⟩
    | ok b =>
      rw [hf] at h
      obtain ⟨pre, x, post, e1, e2, e3⟩ := runL_err (xa := xa) h
      refine ⟨a :: pre, x, post, by rw [e1]; rfl, e2, fun y hy => ?_⟩
      rcases List.mem_cons.1 hy with rfl | hy
      · exact ⟨b, hf⟩
      · exact e3 y hy
/-- all failures that the rest of the turns allows, in order -/
def allF (n : Nat) : Nat → St → List (List Int)
  | 0, _ => [[]]
  | k + 1, s => ((vsG n).filter (mvOk s)).flatMap fun v => (allF n k (hitF s v)).map (v :: ·)
theorem allF_succ (n k : Nat) (s : St) : allF n (k + 1) s = ((vsG n).filter (mvOk s)).flatMap fun v => (allF n k (hitF s v)).map (v :: ·) := rfl
theorem mvOk_congr {s t : St} (h1 : s.budget = t.budget) (h2 : s.failed = t.failed) : mvOk s = mvOk t := by
  funext v
  unfold mvOk
  rw [h1, h2]
theorem hitF_congr {s t : St} (h1 : s.budget = t.budget) (h2 : s.failed = t.failed) (v : Int) : (hitF s v).budget = (hitF t v).budget ∧ (hitF s v).failed = (hitF t v).failed := by
  unfold hitF
  split
  · unfold hit
    exact ⟨by simp [h1], by simp [h2]⟩
  · exact ⟨h1, h2⟩
theorem allF_congr (n : Nat) : ∀ (k : Nat) {s t : St}, s.budget = t.budget → s.failed = t.failed → allF n k s = allF n k t
  | 0, _, _, _, _ => rfl
  | k + 1, s, t, h1, h2 => by
    rw [allF_succ, allF_succ, mvOk_congr h1 h2]
    have : (fun v => (allF n k (hitF s v)).map (v :: ·)) = (fun v => (allF n k (hitF t v)).map (v :: ·)) := by
      funext v
      obtain ⟨a, b⟩ := hitF_congr h1 h2 v
      rw [allF_congr n k a b]
    rw [this]
theorem mem_vsG {n : Nat} {v : Int} : v ∈ vsG n ↔ -1 ≤ v ∧ v < n := by
  unfold vsG
  rw [List.mem_map]
  constructor
  · rintro ⟨i, hi, rfl⟩
    have := List.mem_range.1 hi
    omega
  · intro h
    exact ⟨(v + 1).toNat, List.mem_range.2 (by omega), by omega⟩
theorem mem_allF {n k : Nat} {s : St} {F : List Int} : F ∈ allF n (k + 1) s ↔ ∃ v G, F = v :: G ∧ (-1 ≤ v ∧ v < n) ∧ mvOk s v = true ∧ G ∈ allF n k (hitF s v) := by
  rw [allF_succ, List.mem_flatMap]
  constructor
  · rintro ⟨v, hv, hF⟩
    obtain ⟨G, hG, rfl⟩ := List.mem_map.1 hF
    obtain ⟨h1, h2⟩ := List.mem_filter.1 hv
    exact ⟨v, G, rfl, mem_vsG.1 h1, h2, hG⟩
  · rintro ⟨v, G, rfl, h1, h2, hG⟩
    exact ⟨v, List.mem_filter.2 ⟨mem_vsG.2 h1, h2⟩, List.mem_map.2 ⟨G, hG, rfl⟩⟩
theorem mvOk_neg (s : St) : mvOk s (-1) = true := rfl
theorem hitF_neg (s : St) : hitF s (-1) = s := rfl
theorem allF_none (n : Nat) : ∀ (k : Nat) (s : St), List.replicate k (-1) ∈ allF n k s
  | 0, _ => by simp [allF]
  | k + 1, s => mem_allF.2 ⟨-1, List.replicate k (-1), rfl, ⟨by omega, by omega⟩, rfl, allF_none n k _⟩
theorem allF_cons (n k : Nat) (s : St) : ∃ G Gs, allF n k s = G :: Gs := by
  have h := allF_none n k s
  cases e : allF n k s with
  | nil => rw [e] at h; cases h
  | cons G Gs => exact ⟨G, Gs, rfl⟩
theorem allF_len {n : Nat} : ∀ {k : Nat} {s : St} {F : List Int}, F ∈ allF n k s → F.length = k
  | 0, s, F, h => by simp [allF] at h; simp [h]
  | k + 1, s, F, h => by
    obtain ⟨v, G, rfl, _, _, hG⟩ := mem_allF.1 h
    rw [List.length_cons, allF_len hG]
/-! ### the order -/
def bef : List Int → List Int → Bool
  | a :: xa, b :: xb => decide (a < b) || (decide (a = b) && bef xa xb)
  | _, _ => false
theorem bef_irr : ∀ F : List Int, bef F F = false
  | [] => rfl
  | a :: xa => by
    show (decide (a < a) || (decide (a = a) && bef xa xa)) = false
    rw [bef_irr xa, decide_eq_false (Int.lt_irrefl a), Bool.and_false]
    rfl
theorem bef_asym : ∀ {F G : List Int}, bef F G = true → bef G F = false
  | [], [], h => by cases h
  | [], _ :: _, h => by cases h
  | _ :: _, [], h => by cases h
  | a :: xa, b :: xb, h => by
    have h' : (decide (a < b) || (decide (a = b) && bef xa xb)) = true := h
    show (decide (b < a) || (decide (b = a) && bef xb xa)) = false
    rcases Bool.or_eq_true_iff.1 h' with h1 | h1
    · have := of_decide_eq_true h1
      rw [decide_eq_false (by omega), decide_eq_false (by omega)]
      rfl
    · obtain ⟨h2, h3⟩ := Bool.and_eq_true_iff.1 h1
      have := of_decide_eq_true h2
      rw [decide_eq_false (by omega), bef_asym h3, Bool.and_false]
      rfl
theorem vsG_pw (n : Nat) : (vsG n).Pairwise (· < ·) := by
  unfold vsG
  rw [List.pairwise_map]
  exact List.pairwise_lt_range.imp fun {a b} h => by omega
theorem allF_pw (n : Nat) : ∀ (k : Nat) (s : St), (allF n k s).Pairwise (fun F G => bef F G = true)
  | 0, _ => by simp [allF]
  | k + 1, s => by
    rw [allF_succ, List.pairwise_flatMap]
    refine ⟨fun v _ => ?_, ((vsG_pw n).filter _).imp fun {a b} hab x hx y hy => ?_⟩
    · rw [List.pairwise_map]
      refine (allF_pw n k (hitF s v)).imp fun {F G} h => ?_
      show (decide (v < v) || (decide (v = v) && bef F G)) = true
      rw [h, decide_eq_true rfl, Bool.and_true, Bool.or_true]
    · obtain ⟨F, _, rfl⟩ := List.mem_map.1 hx
      obtain ⟨G, _, rfl⟩ := List.mem_map.1 hy
      show (decide (a < b) || _) = true
      rw [decide_eq_true hab]
      rfl
/-! ### the games -/
theorem turn_st {g : Gm} {plan : List Pos} {s : St} {v : Int} {y : St × Int} (h : turnR g plan s v = .ok y) : y.1.budget = (hitF s v).budget ∧ y.1.failed = (hitF s v).failed ∧ y.1.starts.length = s.starts.length ∧ (y.2 = 0 ∨ y.2 = 1) := by
  have hl : (hitF s v).starts.length = s.starts.length := by unfold hitF; split <;> rfl
  have ha : ∀ c, (afterS (hitF s v) c).starts.length = s.starts.length := fun c => by
    rw [← hl]
    unfold afterS
    simp only
    split
    · rw [List.length_set]
    · rfl
  unfold turnR at h
  cases hp : posAt plan (hitF s v) with
  | none => rw [hp] at h; cases h
  | some p =>
    rw [hp] at h
    simp only at h
    split at h
    · cases h; exact ⟨rfl, rfl, ha _, .inr rfl⟩
    · split at h
      · cases h; exact ⟨rfl, rfl, ha _, .inl rfl⟩
      · cases h
theorem lostL_cons (g : Gm) (plan : List Pos) (f : Int) (F : List Int) (s : St) (n : Int) : lostL g plan (f :: F) s n = match turnR g plan s f with
    | .error e => .error e
    | .ok x => lostL g plan F x.1 (n + x.2) := rfl
theorem games_run (g : Gm) (plan : List Pos) (n : Nat) : ∀ (k : Nat) (s : St) (fl : List Int) (lo : Int), s.starts.length = n →
    gamesL g plan k s fl lo = ((runL (fun G => lostL g plan G s lo) (allF n k s)).1.map (fun x => (fl ++ x.1, x.2)), (runL (fun G => lostL g plan G s lo) (allF n k s)).2)
  | 0, s, fl, lo, _ => by simp [gamesL, allF, runL, lostL]
  | k + 1, s, fl, lo, hs => by
    rw [gamesL_succ, hs, allF_succ]
    have hv : ∀ v, fnG g plan k s fl lo v = ((runL (fun G => lostL g plan G s lo) ((allF n k (hitF s v)).map (v :: ·))).1.map (fun x => (fl ++ x.1, x.2)), (runL (fun G => lostL g plan G s lo) ((allF n k (hitF s v)).map (v :: ·))).2) := by
      intro v
      rw [runL_map]
      unfold fnG
      cases ht : turnR g plan s v with
      | error e =>
        obtain ⟨G, Gs, hG⟩ := allF_cons n k (hitF s v)
        have hc : lostL g plan (v :: G) s lo = .error e := by rw [lostL_cons, ht]
        rw [hG, runL_cons]
        simp only [hc]
        rfl
      | ok y =>
        obtain ⟨e1, e2, e3, _⟩ := turn_st ht
        have hc : ∀ G, lostL g plan (v :: G) s lo = lostL g plan G y.1 (lo + y.2) := fun G => by rw [lostL_cons, ht]
        simp only
        rw [games_run g plan n k y.1 (fl ++ [v]) (lo + y.2) (e3.trans hs), allF_congr n k e1 e2, runL_congr hc]
        simp [List.map_map, Function.comp_def]
    have key : ∀ l : List Int, seqG (fnG g plan k s fl lo) l = ((runL (fun G => lostL g plan G s lo) (l.flatMap fun v => (allF n k (hitF s v)).map (v :: ·))).1.map (fun x => (fl ++ x.1, x.2)), (runL (fun G => lostL g plan G s lo) (l.flatMap fun v => (allF n k (hitF s v)).map (v :: ·))).2) := by
      intro l
      induction l with
      | nil => rfl
      | cons v l ih =>
        rw [seqG_cons, List.flatMap_cons, runL_append, hv v, ih]
        cases h : (runL (fun G => lostL g plan G s lo) ((allF n k (hitF s v)).map (v :: ·))).2 with
        | none => simp
        | some e => simp
    exact key _
/-- all failures that a game allows -/
abbrev allG (g : Gm) : List (List Int) := allF g.starts.length g.deps.length (beginS g)
theorem gamesG_run (g : Gm) (plan : List Pos) : gamesG g plan = runL (fun G => lostL g plan G (beginS g) 0) (allG g) := by
  unfold gamesG
  rw [games_run g plan g.starts.length g.deps.length (beginS g) [] 0 rfl]
  simp
theorem lostL_in {g : Gm} {plan : List Pos} : ∀ {F : List Int} {s : St} {n x : Int}, lostL g plan F s n = .ok x → n ≤ x ∧ x ≤ n + F.length
  | [], s, n, x, h => by
    have h' : (Except.ok n : Except Int Int) = .ok x := h
    cases h'
    simp
  | f :: F, s, n, x, h => by
    rw [lostL_cons] at h
    cases ht : turnR g plan s f with
    | error e => rw [ht] at h; cases h
    | ok y =>
      rw [ht] at h
      obtain ⟨h1, h2⟩ := lostL_in h
      obtain ⟨_, _, _, h3⟩ := turn_st ht
      rw [List.length_cons]
      omega
theorem lostL_err {g : Gm} {plan : List Pos} : ∀ {F : List Int} {s : St} {n e : Int}, lostL g plan F s n = .error e → e = 2 ∨ e = 5
  | [], s, n, x, h => by cases h
  | f :: F, s, n, x, h => by
    rw [lostL_cons] at h
    cases ht : turnR g plan s f with
    | error e => rw [ht] at h; cases h; exact turnR_err ht
    | ok y => rw [ht] at h; exact lostL_err h
/-! ### the first of the greatest -/
theorem worst_fold : ∀ (xs : List (List Int × Int)) (m : List Int × Int), (xs.foldl wStep m = m ∧ ∀ y ∈ xs, y.2 ≤ m.2) ∨
    ∃ pre x post, xs = pre ++ x :: post ∧ xs.foldl wStep m = x ∧ (∀ y ∈ pre, y.2 < x.2) ∧ (∀ y ∈ post, y.2 ≤ x.2) ∧ m.2 < x.2
  | [], m => .inl ⟨rfl, fun _ h => (by cases h)⟩
  | x0 :: xs, m => by
    rw [List.foldl_cons]
    by_cases h : m.2 < x0.2
    · rw [show wStep m x0 = x0 from if_pos h]
      rcases worst_fold xs x0 with ⟨h1, h2⟩ | ⟨pre, x, post, h1, h2, h3, h4, h5⟩
      · exact .inr ⟨[], x0, xs, rfl, h1, fun _ h => (by cases h), h2, h⟩
      · refine .inr ⟨x0 :: pre, x, post, by rw [h1]; rfl, h2, fun y hy => ?_, h4, by omega⟩
        rcases List.mem_cons.1 hy with rfl | hy
        · exact h5
        · exact h3 y hy
    · rw [show wStep m x0 = m from if_neg h]
      rcases worst_fold xs m with ⟨h1, h2⟩ | ⟨pre, x, post, h1, h2, h3, h4, h5⟩
      · refine .inl ⟨h1, fun y hy => ?_⟩
        rcases List.mem_cons.1 hy with rfl | hy
        · omega
        · exact h2 y hy
      · refine .inr ⟨x0 :: pre, x, post, by rw [h1]; rfl, h2, fun y hy => ?_, h4, h5⟩
        rcases List.mem_cons.1 hy with rfl | hy
        · omega
        · exact h3 y hy
/-- what Worst answers where the plan never gets stuck -/
structure WorstOk (g : Gm) (plan : List Pos) (W : List Int) (m : Int) : Prop where
  mem : W ∈ allG g
  val : lostL g plan W (beginS g) 0 = .ok m
  all : ∀ F ∈ allG g, ∃ x, lostL g plan F (beginS g) 0 = .ok x ∧ 0 ≤ x ∧ x ≤ m ∧ (x < m ∨ bef F W = false)
theorem worst_okG {g : Gm} {plan : List Pos} (h : (gamesG g plan).2 = none) : WorstOk g plan (worstF (gamesG g plan).1).1 (worstF (gamesG g plan).1).2 := by
  rw [gamesG_run] at h ⊢
  obtain ⟨h1, h2⟩ := runL_ok h
  rw [h2]
  obtain ⟨G, Gs, hG⟩ : ∃ G Gs, allG g = G :: Gs := allF_cons g.starts.length g.deps.length (beginS g)
  have hpos : ∀ a ∈ allG g, 0 ≤ okV (lostL g plan a (beginS g) 0) := fun a ha => (lostL_in (h1 a ha)).1
  have hmem : ∀ y ∈ (allG g).map (fun a => (a, okV (lostL g plan a (beginS g) 0))), y.1 ∈ allG g ∧ y.2 = okV (lostL g plan y.1 (beginS g) 0) := fun y hy => by
    obtain ⟨a, ha, rfl⟩ := List.mem_map.1 hy
    exact ⟨ha, rfl⟩
  unfold worstF
  rcases worst_fold ((allG g).map (fun a => (a, okV (lostL g plan a (beginS g) 0)))) ([], -1) with ⟨e1, e2⟩ | ⟨pre, x, post, e1, e2, e3, e4, e5⟩
  · have h3 := e2 (G, okV (lostL g plan G (beginS g) 0)) (List.mem_map.2 ⟨G, by rw [hG]; simp, rfl⟩)
    have h4 := hpos G (by rw [hG]; simp)
    simp only at h3
    omega
  · rw [e2]
    have hx := hmem x (by rw [e1]; simp)
    refine ⟨hx.1, by rw [hx.2]; exact h1 _ hx.1, fun F hF => ⟨_, h1 F hF, hpos F hF, ?_⟩⟩
    have hFm : (F, okV (lostL g plan F (beginS g) 0)) ∈ pre ++ x :: post := by rw [← e1]; exact List.mem_map.2 ⟨F, hF, rfl⟩
    have hpw : (pre ++ x :: post).Pairwise (fun a b => bef a.1 b.1 = true) := by
      rw [← e1, List.pairwise_map]
      exact allF_pw _ _ _
    rcases List.mem_append.1 hFm with h5 | h5
    · have := e3 _ h5
      simp only at this
      exact ⟨by omega, .inl this⟩
    · rcases List.mem_cons.1 h5 with h6 | h6
      · rw [← h6]
        exact ⟨Int.le_refl _, .inr (bef_irr _)⟩
      · have h7 := e4 _ h6
        simp only at h7
        have h8 := (List.pairwise_cons.1 (List.pairwise_append.1 hpw).2.1).1 _ h6
        exact ⟨h7, .inr (bef_asym h8)⟩
/-! ### what is allowed -/
theorem fold_allF {n : Nat} (hn : n ≤ 6) : ∀ (F : List Int) (s : St) (fb : List Bool) (c : Int), fb.length = 6 → s.failed.length = n → 0 ≤ s.budget → (∀ v, v < n → bg fb v = bg s.failed v) →
    ((∃ y, F.foldl (failStep n) (some (fb, c)) = some y ∧ y.2 ≤ c + s.budget) ↔ F ∈ allF n F.length s)
  | [], s, fb, c, _, _, hb, _ => by
    constructor
    · intro _; simp [allF]
    · intro _; exact ⟨_, rfl, by simp; omega⟩
  | f :: F, s, fb, c, hfl, hsl, hb, hag => by
    rw [List.length_cons, mem_allF, List.foldl_cons]
    by_cases hbad : f < -1 ∨ (n : Int) ≤ f ∨ (0 ≤ f ∧ bg fb f.toNat = true)
    · rw [show failStep n (some (fb, c)) f = none from if_pos hbad, failO_none]
      constructor
      · rintro ⟨y, hy, _⟩
        cases hy
      · rintro ⟨v, G, e, hv, hok, _⟩
        cases e
        exfalso
        rcases hbad with h | h | ⟨h, h2⟩
        · omega
        · omega
        · rw [hag f.toNat (by omega)] at h2
          unfold mvOk at hok
          rw [decide_eq_false (by omega), h2] at hok
          simp at hok
    · have hr : -1 ≤ f ∧ f < n := by omega
      by_cases h0 : 0 ≤ f
      · have hbf : bg fb f.toNat = false := by
          cases h : bg fb f.toNat
          · rfl
          · exact absurd (.inr (.inr ⟨h0, h⟩)) hbad
        rw [show failStep n (some (fb, c)) f = some (fb.set f.toNat true, c + 1) from by
          show (if _ then _ else _) = _
          rw [if_neg hbad, if_pos h0]]
        have hh : hitF s f = hit s f.toNat := if_pos h0
        have hmv : mvOk s f = !decide (s.budget = 0) := by
          unfold mvOk
          rw [decide_eq_false (by omega), ← hag f.toNat (by omega), hbf]
          simp
        by_cases hb0 : s.budget = 0
        · constructor
          · rintro ⟨y, hy, hy2⟩
            obtain ⟨h1, _⟩ := fail_cnt hy
            have h2 := cntF_nonneg F
            simp only at h1
            omega
          · rintro ⟨v, G, e, hv, hok, _⟩
            cases e
            rw [hmv, hb0] at hok
            cases hok
        · have ih := fold_allF hn F (hit s f.toNat) (fb.set f.toNat true) (c + 1) (by rw [List.length_set]; exact hfl) (by show (s.failed.set _ true).length = _; rw [List.length_set]; exact hsl) (by show 0 ≤ s.budget - 1; omega) (fun v hv => by
            show _ = bg (s.failed.set f.toNat true) v
            rw [bg_setT (by omega), bg_setT (by omega), hag v hv])
          rw [show c + 1 + (hit s f.toNat).budget = c + s.budget from by show c + 1 + (s.budget - 1) = _; omega] at ih
          rw [ih]
          constructor
          · intro h
            exact ⟨f, F, rfl, hr, by rw [hmv, decide_eq_false hb0]; rfl, by rw [hh]; exact h⟩
          · rintro ⟨v, G, e, hv, hok, hG⟩
            cases e
            rw [hh] at hG
            exact hG
      · have hf : f = -1 := by omega
        rw [show failStep n (some (fb, c)) f = some (fb, c) from by
          show (if _ then _ else _) = _
          rw [if_neg hbad, if_neg h0]]
        rw [fold_allF hn F s fb c hfl hsl hb hag]
        constructor
        · intro h
          exact ⟨f, F, rfl, hr, by rw [hf]; rfl, by rw [hf]; exact h⟩
        · rintro ⟨v, G, e, hv, hok, hG⟩
          cases e
          rw [hf] at hG
          exact hG
theorem bg_rep (n v : Nat) : bg (List.replicate n false) v = false := by
  unfold bg
  rw [List.getD_eq_getElem?_getD, List.getElem?_replicate]
  split <;> rfl
theorem allow_iff {g : Gm} (hv : VG g) {F : List Int} : AllowG g F ↔ F ∈ allG g := by
  have key := fold_allF hv.1 F (beginS g) (List.replicate 6 false) 0 (by simp) (by show (List.replicate _ false).length = _; simp) hv.2.2.1 (fun v hv' => by
    show _ = bg (List.replicate _ false) v
    have h6 := hv.1
    rw [bg_rep, bg_rep])
  constructor
  · rintro ⟨hl, x, hx, hb⟩
    have := key.1 ⟨x, hx, by show x.2 ≤ 0 + g.budget; omega⟩
    rw [hl] at this
    exact this
  · intro h
    have hl := allF_len h
    have h' : F ∈ allF g.starts.length g.deps.length (beginS g) := h
    rw [← hl] at h'
    obtain ⟨y, hy, hb⟩ := key.2 h'
    have hb' : y.2 ≤ 0 + g.budget := hb
    exact ⟨hl, y, hy, by omega⟩
end Go.Proofs.Ytgccankekflchaa
namespace Go.Proofs.Ytgccankekflchaa
open Go.RowKit Go.Maps Go.Shelf

/-- in order and of different states: strictly in order -/
theorem strict_of {l : List Pos} (hp : l.Pairwise (fun x y => ¬ cmpP y x < 0)) (hn : (l.map Pos.st).Nodup) : l.Pairwise (fun x y => cmpP x y < 0) := by
  have h2 : l.Pairwise (fun x y => x.st ≠ y.st) := List.pairwise_map.1 hn
  exact (hp.and h2).imp fun {x y} ⟨a, b⟩ => by
    have e := cmpP_tw.anti x y
    have z : cmpP x y ≠ 0 := fun h => b (cmpP_zero h)
    omega
theorem cmpI_self (a : Int) : cmpI a a = 0 := cmpI_zero.2 rfl
theorem cmpL_self : ∀ l : List Int, cmpL l l = 0
  | [] => rfl
  | a :: l => by
    unfold cmpL
    rw [if_pos (cmpI_self a)]
    exact cmpL_self l
theorem cmpP_of {p q : Pos} (h : p.st = q.st) : cmpP p q = 0 := by
  unfold Pos.st at h
  simp only [St.mk.injEq] at h
  obtain ⟨h1, h2, h3, h4⟩ := h
  unfold cmpP
  rw [h1, h2, h3, h4, cmpI_self, cmpL_self, cmpL_self, cmpI_self]
  rfl
structure FolR (g : Gm) (D R : List St) : Prop where
  nd : R.Nodup
  sub : ∀ y ∈ D, y ∈ R
  new : ∀ y ∈ R, y ∈ D ∨ (Dom g y ∧ y.turn < g.deps.length ∧ (y.turn + 1 < g.deps.length → ∀ x ∈ madeL (afterS y (BG g y).1), x ∈ R))
theorem fol_props {g : Gm} : ∀ (k : Nat) (s : St) (D : List St), Dom g s → s.turn + k = g.deps.length → D.Nodup → FolR g D (followL g k s D) ∧ (0 < k → ∀ x ∈ madeL s, x ∈ followL g k s D)
  | 0, s, D, _, _, hn => ⟨⟨hn, fun _ h => h, fun _ h => .inl h⟩, fun h => absurd h (by omega)⟩
  | k + 1, s, D, hs, hk, hn => by
    rw [followL_succ]
    have key : ∀ (l : List St) (D : List St), (∀ x ∈ l, x ∈ madeL s) → D.Nodup → FolR g D (l.foldl (folStep g k) D) ∧ ∀ x ∈ l, x ∈ l.foldl (folStep g k) D := by
      intro l
      induction l with
      | nil => intro D _ hn; exact ⟨⟨hn, fun _ h => h, fun _ h => .inl h⟩, fun _ h => (by cases h)⟩
      | cons x l ih =>
        intro D hl hn
        rw [List.foldl_cons]
        have hx := hl x (by simp)
        have hdx := hs.made hx
        have htx := made_turn hx
        have st : FolR g D (folStep g k D x) ∧ x ∈ folStep g k D x := by
          unfold folStep
          split
          · rename_i h
            exact ⟨⟨hn, fun _ h => h, fun _ h => .inl h⟩, h⟩
          · rename_i h
            have hn2 : (D ++ [x]).Nodup := by
              rw [List.nodup_append]
              exact ⟨hn, by simp, fun y hy z hz => by rw [List.mem_singleton.1 hz]; exact fun e => h (e ▸ hy)⟩
            obtain ⟨⟨a, b, c⟩, d⟩ := fol_props k (afterS x (BG g x).1) (D ++ [x]) (hdx.next (by omega)) (by show x.turn + 1 + k = _; omega) hn2
            refine ⟨⟨a, fun y hy => b y (by simp [hy]), fun y hy => ?_⟩, b x (by simp)⟩
            rcases c y hy with h1 | h1
            · rcases List.mem_append.1 h1 with h2 | h2
              · exact .inl h2
              · have e := List.mem_singleton.1 h2
                subst e
                exact .inr ⟨hdx, by omega, fun ht => d (by omega)⟩
            · exact .inr h1
        obtain ⟨s1, s2⟩ := st
        obtain ⟨t1, t2⟩ := ih (folStep g k D x) (fun y hy => hl y (by simp [hy])) s1.nd
        refine ⟨⟨t1.nd, fun y hy => t1.sub y (s1.sub y hy), fun y hy => ?_⟩, fun y hy => ?_⟩
        · rcases t1.new y hy with h1 | h1
          · rcases s1.new y h1 with h2 | ⟨h2, h3, h4⟩
            · exact .inl h2
            · exact .inr ⟨h2, h3, fun ht z hz => t1.sub z (h4 ht z hz)⟩
          · exact .inr h1
        · rcases List.mem_cons.1 hy with rfl | hy
          · exact t1.sub _ s2
          · exact t2 y hy
    have := key (madeL s) D (fun _ h => h) hn
    exact ⟨this.1, fun _ => this.2⟩
theorem bvF_val {g : Gm} {w : St → Int} {x : St} (hd : ∀ v ∈ dg g x.turn.toNat, 0 ≤ v) : (bvF g w x).2 = (if (bvF g w x).1 < 0 then 1 else 0) + w (afterS x (bvF g w x).1) := by
  have key : ∀ (l : List Int) (o : Int × Int), (∀ v ∈ l, 0 ≤ v) → o.2 = (if o.1 < 0 then 1 else 0) + w (afterS x o.1) → (l.foldl (considerF w x) o).2 = (if (l.foldl (considerF w x) o).1 < 0 then 1 else 0) + w (afterS x (l.foldl (considerF w x) o).1) := by
    intro l
    induction l with
    | nil => intro o _ h; exact h
    | cons v l ih =>
      intro o hl h
      have hv := hl v (by simp)
      refine ih _ (fun y hy => hl y (by simp [hy])) ?_
      unfold considerF
      split
      · split
        · show w (afterS x v) = (if v < 0 then 1 else 0) + w (afterS x v)
          rw [if_neg (by omega)]
          omega
        · exact h
      · exact h
  unfold bvF
  exact key _ _ hd rfl
def boundB (g : Gm) (x : St) : Int := (BG g x).2
/-- what the plan's rows hold -/
structure PlanR (g : Gm) (l : List PA) : Prop where
  strict : (l.map (·.1)).Pairwise (fun x y => cmpP x y < 0)
  pos : ∀ q ∈ l, q.1 = posS g q.1.st
  dom : ∀ q ∈ l, Dom g q.1.st ∧ q.1.turn < g.deps.length
  next : ∀ q ∈ l, q.1.turn + 1 < g.deps.length → ∀ y ∈ madeL (afterS q.1.st q.1.choice), ∃ r ∈ l, r.1.st = y
  first : 0 < g.deps.length → ∀ y ∈ madeL (beginS g), ∃ r ∈ l, r.1.st = y
theorem PlanOf.rows {g : Gm} (hv : VG g) {l : List PA} (h : PlanOf g (l.map (·.1))) : PlanR g l := by
  obtain ⟨⟨nd, _, new⟩, fst⟩ := fol_props (g := g) g.deps.length (beginS g) [] (Dom.begin hv) (by show (0 : Int) + _ = _; omega) List.nodup_nil
  have hmem : ∀ q ∈ l, ∃ x ∈ followL g g.deps.length (beginS g) [], q.1 = posS g x := fun q hq => by
    have h1 := h.p.mem_iff.1 (List.mem_map.2 ⟨q, hq, rfl⟩)
    obtain ⟨x, hx, e⟩ := List.mem_map.1 h1
    exact ⟨x, hx, e.symm⟩
  have hback : ∀ x ∈ followL g g.deps.length (beginS g) [], ∃ r ∈ l, r.1.st = x := fun x hx => by
    have h1 := h.p.mem_iff.2 (List.mem_map.2 ⟨x, hx, rfl⟩)
    obtain ⟨r, hr, e⟩ := List.mem_map.1 h1
    exact ⟨r, hr, by have e' : r.1 = posS g x := e; rw [e', posS_st]⟩
  have hst : ((l.map (·.1)).map Pos.st).Nodup := by
    have h1 := h.p.map Pos.st
    rw [List.map_map, List.map_map] at h1
    have e : (followL g g.deps.length (beginS g) []).map (Pos.st ∘ posS g) = followL g g.deps.length (beginS g) [] := by
      rw [show (Pos.st ∘ posS g) = id from rfl, List.map_id]
    rw [e] at h1
    rw [List.map_map]
    exact h1.nodup_iff.2 nd
  refine ⟨strict_of h.s hst, fun q hq => ?_, fun q hq => ?_, fun q hq ht y hy => ?_, fun h0 y hy => hback y (fst h0 y hy)⟩
  · obtain ⟨x, hx, e⟩ := hmem q hq
    rw [e, posS_st]
  · obtain ⟨x, hx, e⟩ := hmem q hq
    rcases new x hx with h1 | ⟨h1, h2, _⟩
    · cases h1
    · rw [e, posS_st]
      exact ⟨h1, h2⟩
  · obtain ⟨x, hx, e⟩ := hmem q hq
    rcases new x hx with h1 | ⟨h1, h2, h3⟩
    · cases h1
    · rw [e, posS_st] at hy
      rw [e] at ht
      exact hback y (h3 ht y hy)
theorem PlanR.nodup {g : Gm} {l : List PA} (h : PlanR g l) : (l.map fun x : PA => x.1.st).Nodup := by
  have h1 : (l.map (·.1)).Pairwise (fun x y => x.st ≠ y.st) := h.strict.imp fun {x y} hxy e => by rw [cmpP_of e] at hxy; omega
  have h2 := List.pairwise_map.1 h1
  exact List.pairwise_map.2 h2
theorem PlanR.bound {g : Gm} (hv : VG g) {l : List PA} (h : PlanR g l) {q : PA} (hq : q ∈ l) : q.1.bound = (if q.1.choice < 0 then 1 else 0) + (if q.1.turn + 1 < g.deps.length then maxL ((madeL (afterS q.1.st q.1.choice)).map (boundB g)) else 0) := by
  have e := h.pos q hq
  obtain ⟨hd, ht⟩ := h.dom q hq
  have h0 := hd.t0
  have e1 : q.1.bound = (BG g q.1.st).2 := by rw [e]; rfl
  have e2 : q.1.choice = (BG g q.1.st).1 := by rw [e]; rfl
  have e3 : q.1.st.turn = q.1.turn := rfl
  rw [e1, e2]
  have hb := bvF_val (g := g) (w := WG g) (x := q.1.st) fun v hv' => (okDep_domG (hv.2.2.2.2.2 q.1.st.turn.toNat (by omega)) hv').1
  rw [show (BG g q.1.st).2 = (bvF g (WG g) q.1.st).2 from rfl, hb]
  congr 1
  by_cases hn : q.1.turn + 1 < g.deps.length
  · rw [if_pos hn]
    exact WG_on (by show 0 ≤ q.1.st.turn + 1; omega) (by show q.1.st.turn + 1 < _; omega)
  · rw [if_neg hn]
    exact WG_end (by show _ ≤ q.1.st.turn + 1; omega)
theorem boundB_in {g : Gm} (hv : VG g) (x : St) : 0 ≤ boundB g x ∧ boundB g x ≤ 13 := by
  have := bvF_in (g := g) (w := WG g) (x := x) (b := 12) (WG_in hv)
  exact ⟨this.1, by have h := this.2; show (BG g x).2 ≤ 13; exact h⟩
theorem PlanR.can {g : Gm} {l : List PA} (h : PlanR g l) {q : PA} (hq : q ∈ l) : can g q.1.st q.1.choice := by
  have e := h.pos q hq
  have e2 : q.1.choice = (BG g q.1.st).1 := by rw [e]; rfl
  rw [e2]
  exact BG_can g q.1.st
end Go.Proofs.Ytgccankekflchaa
namespace Go.Proofs.Ytgccankekflchaa
open Go.RowKit Go.Maps

/-! ### further positions -/
theorem posAt_more {plan more : List Pos} {s : St} {p : Pos} (h : posAt plan s = some p) : posAt (plan ++ more) s = some p := by
  unfold posAt at h ⊢
  rw [List.find?_append, h]
  rfl
theorem turn_more {g : Gm} {plan : List Pos} (more : List Pos) {s : St} {f : Int} {r : Except Int (St × Int)} (h : turnR g plan s f = r) (hr : r ≠ .error 2) : turnR g (plan ++ more) s f = r := by
  unfold turnR at h ⊢
  cases hp : posAt plan (hitF s f) with
  | none => rw [hp] at h; exact absurd h.symm hr
  | some p => rw [posAt_more hp]; rw [hp] at h; exact h
theorem lost_more {g : Gm} {plan : List Pos} (more : List Pos) : ∀ {F : List Int} {s : St} {n : Int} {r : Except Int Int}, lostL g plan F s n = r → r ≠ .error 2 → lostL g (plan ++ more) F s n = r
  | [], _, _, _, h, _ => h
  | f :: F, s, n, r, h, hr => by
    rw [lostL_cons] at h ⊢
    cases ht : turnR g plan s f with
    | error e =>
      rw [ht] at h
      rw [turn_more more ht (fun e2 => by cases e2; exact hr h.symm)]
      exact h
    | ok y =>
      rw [ht] at h
      rw [turn_more more ht (fun e2 => by cases e2)]
      exact lost_more more h hr
/-- what Lost answers, in numbers -/
noncomputable def lostN (g : Gm) (plan : List Pos) (F : List Int) : Int × Int := open Classical in
  if VG g ∧ AllowG g F then (match lostL g plan F (beginS g) 0 with
    | .ok n => (n, 0)
    | .error e => (0, e)) else (0, 1)
theorem lostN_no {g : Gm} {plan : List Pos} {F : List Int} (h : ¬ (VG g ∧ AllowG g F)) : lostN g plan F = (0, 1) := if_neg h
theorem lostN_yes {g : Gm} {plan : List Pos} {F : List Int} (h : VG g ∧ AllowG g F) : lostN g plan F = match lostL g plan F (beginS g) 0 with
    | .ok n => (n, 0)
    | .error e => (0, e) := if_pos h
theorem lostN_ok {g : Gm} {plan : List Pos} {F : List Int} {n : Int} (h : VG g ∧ AllowG g F) (hl : lostL g plan F (beginS g) 0 = .ok n) : lostN g plan F = (n, 0) := by rw [lostN_yes h, hl]
theorem lostN_in {g : Gm} {plan : List Pos} {F : List Int} : 0 ≤ (lostN g plan F).1 ∧ (lostN g plan F).1 ≤ 12 ∧ ((lostN g plan F).2 = 0 ∨ (lostN g plan F).2 = 1 ∨ (lostN g plan F).2 = 2 ∨ (lostN g plan F).2 = 5) := by
  by_cases h : VG g ∧ AllowG g F
  · rw [lostN_yes h]
    cases hl : lostL g plan F (beginS g) 0 with
    | ok n =>
      have := lostL_in hl
      have h1 := h.1.2.1
      have h2 := h.2.1
      exact ⟨this.1, by show n ≤ 12; omega, .inl rfl⟩
    | error e =>
      have := lostL_err hl
      exact ⟨Int.le_refl _, by show (0 : Int) ≤ 12; omega, .inr (.inr this)⟩
  · rw [lostN_no h]
    exact ⟨Int.le_refl _, by show (0 : Int) ≤ 12; omega, .inr (.inl rfl)⟩
structure MoreF (a b : Int × Int) : Prop where
  ok : a.2 = 0 → b.2 = 0 ∧ a.1 = b.1
  no : a.2 ≠ 0 → a.2 = 2 ∨ b.2 = a.2
theorem more_fact (g : Gm) (plan more : List Pos) (F : List Int) : MoreF (lostN g plan F) (lostN g (plan ++ more) F) := by
  by_cases h : VG g ∧ AllowG g F
  · rw [lostN_yes h, lostN_yes h]
    cases hl : lostL g plan F (beginS g) 0 with
    | ok n =>
      rw [lost_more more hl (fun e => by cases e)]
      exact ⟨fun _ => ⟨rfl, rfl⟩, fun e => absurd rfl e⟩
    | error e =>
      rcases lostL_err hl with rfl | rfl
      · exact ⟨fun e => (by cases e), fun _ => .inl rfl⟩
      · rw [lost_more more hl (fun e => by cases e)]
        exact ⟨fun e => (by cases e), fun _ => .inr rfl⟩
  · rw [lostN_no h, lostN_no h]
    exact ⟨fun e => (by cases e), fun _ => .inr rfl⟩
/-! ### the same failures before a turn -/
def calmF (F : List Int) (t : Nat) : List Int := F.take t ++ List.replicate (F.length - t) (-1)
theorem calm_allF {n : Nat} : ∀ {F : List Int} {t : Nat} {s : St}, F ∈ allF n F.length s → calmF F t ∈ allF n F.length s
  | [], t, s, h => by
    unfold calmF
    simpa using h
  | f :: F, 0, s, h => by
    have e : calmF (f :: F) 0 = List.replicate (f :: F).length (-1) := rfl
    rw [e]
    exact allF_none _ _ _
  | f :: F, t + 1, s, h => by
    rw [List.length_cons] at h ⊢
    obtain ⟨v, G, e, h1, h2, h3⟩ := mem_allF.1 h
    cases e
    have e : calmF (f :: F) (t + 1) = f :: calmF F t := by
      unfold calmF
      rw [List.take_succ_cons, List.length_cons, Nat.add_sub_add_right]
      rfl
    rw [e]
    exact mem_allF.2 ⟨f, _, rfl, h1, h2, calm_allF h3⟩
theorem calm_len (F : List Int) {t : Nat} (ht : t ≤ F.length) : (calmF F t).length = F.length := by unfold calmF; simp; omega
theorem calm_diff {g : Gm} {plan : List Pos} : ∀ {F : List Int} {t : Nat} {s : St} {n a b : Int}, t ≤ F.length → lostL g plan F s n = .ok a → lostL g plan (calmF F t) s n = .ok b → a - b ≤ F.length - t ∧ b - a ≤ F.length - t
  | F, 0, s, n, a, b, _, ha, hb => by
    have h1 := lostL_in ha
    have h2 := lostL_in hb
    rw [calm_len F (Nat.zero_le _)] at h2
    omega
  | [], t + 1, s, n, a, b, ht, _, _ => by simp at ht
  | f :: F, t + 1, s, n, a, b, ht, ha, hb => by
    have e : calmF (f :: F) (t + 1) = f :: calmF F t := by
      unfold calmF
      rw [List.take_succ_cons, List.length_cons, Nat.add_sub_add_right]
      rfl
    rw [e, lostL_cons] at hb
    rw [lostL_cons] at ha
    cases hx : turnR g plan s f with
    | error m => rw [hx] at ha; cases ha
    | ok y =>
      rw [hx] at ha hb
      have := calm_diff (by simpa using ht) ha hb
      rw [List.length_cons]
      omega
structure BegF (a b : Int × Int) (r : Int) : Prop where
  arg : a.2 ≠ 1 → b.2 ≠ 1
  ok : a.2 = 0 → b.2 = 0 → a.1 - b.1 ≤ r ∧ b.1 - a.1 ≤ r
theorem beg_fact (g : Gm) (plan : List Pos) (F : List Int) {t : Nat} (ht : t ≤ F.length) : BegF (lostN g plan F) (lostN g plan (calmF F t)) (F.length - t) := by
  by_cases h : VG g ∧ AllowG g F
  · have hm := (allow_iff h.1).1 h.2
    have hm2 : calmF F t ∈ allG g := by
      have hl := allF_len hm
      unfold allG at hm ⊢
      rw [← hl] at hm ⊢
      exact calm_allF hm
    have h2 : VG g ∧ AllowG g (calmF F t) := ⟨h.1, (allow_iff h.1).2 hm2⟩
    rw [lostN_yes h, lostN_yes h2]
    refine ⟨fun _ => ?_, ?_⟩
    · cases hl : lostL g plan (calmF F t) (beginS g) 0 with
      | ok n => exact fun e => by cases e
      | error e => rcases lostL_err hl with rfl | rfl <;> exact fun e => by cases e
    · cases h3 : lostL g plan F (beginS g) 0 with
      | error e => rcases lostL_err h3 with rfl | rfl <;> exact fun e => by cases e
      | ok a =>
        cases h4 : lostL g plan (calmF F t) (beginS g) 0 with
        | error e => rcases lostL_err h4 with rfl | rfl <;> exact fun _ e => by cases e
        | ok b => exact fun _ _ => calm_diff ht h3 h4
  · rw [lostN_no h]
    exact ⟨fun e => absurd rfl e, fun e => by cases e⟩
/-! ### no failures at all -/
def calmG (g : Gm) : Gm := { g with budget := 0 }
def posC0 (p : Pos) : Pos := { p with budget := 0 }
def stC0 (s : St) : St := { s with budget := 0 }
def stillL (b : Int) (plan : List Pos) : List Pos := (plan.filter fun p => decide (p.budget = b)).map posC0
theorem calm_vg {g : Gm} (h : VG g) : VG (calmG g) := ⟨h.1, h.2.1, Int.le_refl _, by show (0 : Int) ≤ 3; omega, h.2.2.2.2.1, h.2.2.2.2.2⟩
theorem posAt_still (s : St) : ∀ plan : List Pos, posAt (stillL s.budget plan) (stC0 s) = (posAt plan s).map posC0
  | [] => rfl
  | p :: plan => by
    have ih := posAt_still s plan
    unfold posAt stillL at ih ⊢
    rw [List.find?_cons]
    by_cases hb : p.budget = s.budget
    · rw [List.filter_cons_of_pos (by simpa using hb), List.map_cons, List.find?_cons]
      have e : decide ((posC0 p).st = stC0 s) = decide (p.st = s) := by
        rw [Bool.eq_iff_iff, decide_eq_true_iff, decide_eq_true_iff]
        constructor
        · intro h
          have h1 := congrArg St.turn h
          have h2 := congrArg St.starts h
          have h3 := congrArg St.failed h
          exact St.ext' h1 h2 h3 hb
        · intro h
          rw [← h]
          rfl
      rw [e]
      cases h : decide (p.st = s) with
      | true => rfl
      | false => exact ih
    · rw [List.filter_cons_of_neg (by simpa using hb)]
      have e : decide (p.st = s) = false := decide_eq_false fun h => hb (by rw [← h]; rfl)
      rw [e]
      exact ih
theorem turn_still (g : Gm) (plan : List Pos) (s : St) : turnR (calmG g) (stillL s.budget plan) (stC0 s) (-1) = match turnR g plan s (-1) with
    | .error e => .error e
    | .ok y => .ok (stC0 y.1, y.2) := by
  unfold turnR
  rw [hitF_neg, hitF_neg, posAt_still]
  cases hp : posAt plan s with
  | none => rfl
  | some p =>
    show (if p.choice = -1 then Except.ok (afterS (stC0 s) (-1), 1) else if canQ (calmG g) (stC0 s) p.choice then Except.ok (afterS (stC0 s) p.choice, 0) else Except.error 5) =
      match (if p.choice = -1 then Except.ok (afterS s (-1), 1) else if canQ g s p.choice then Except.ok (afterS s p.choice, 0) else Except.error 5 : Except Int (St × Int)) with
      | .error e => .error e
      | .ok y => .ok (stC0 y.1, y.2)
    by_cases h1 : p.choice = -1
    · rw [if_pos h1, if_pos h1]
      rfl
    · rw [if_neg h1, if_neg h1]
      by_cases h2 : canQ g s p.choice
      · have h3 : canQ (calmG g) (stC0 s) p.choice := h2
        rw [if_pos h2, if_pos h3]
        rfl
      · have h3 : ¬ canQ (calmG g) (stC0 s) p.choice := h2
        rw [if_neg h2, if_neg h3]
theorem lost_still (g : Gm) (plan : List Pos) : ∀ (k : Nat) (s : St) (n : Int), lostL (calmG g) (stillL s.budget plan) (List.replicate k (-1)) (stC0 s) n = lostL g plan (List.replicate k (-1)) s n
  | 0, _, _ => rfl
  | k + 1, s, n => by
    rw [List.replicate_succ, lostL_cons, lostL_cons, turn_still]
    cases ht : turnR g plan s (-1) with
    | error e => rfl
    | ok y =>
      have hb := (turn_st ht).1
      rw [hitF_neg] at hb
      show lostL (calmG g) (stillL s.budget plan) (List.replicate k (-1)) (stC0 y.1) (n + y.2) = _
      rw [← hb]
      exact lost_still g plan k y.1 _
theorem allF_zero (n : Nat) : ∀ (k : Nat) (s : St), s.budget = 0 → allF n k s = [List.replicate k (-1)]
  | 0, _, _ => rfl
  | k + 1, s, hb => by
    have e : (vsG n).filter (mvOk s) = [-1] := by
      have ev : vsG n = (-1) :: (List.range n).map (fun (i : Nat) => (i : Int)) := by
        unfold vsG
        rw [List.range_succ_eq_map, List.map_cons, List.map_map]
        congr 1
        refine List.map_congr_left fun i _ => ?_
        simp
      rw [ev, List.filter_cons_of_pos (mvOk_neg s), List.filter_eq_nil_iff.2]
      intro v hv
      obtain ⟨i, _, rfl⟩ := List.mem_map.1 hv
      unfold mvOk
      rw [hb, decide_eq_false (by omega)]
      simp
    rw [allF_succ, e, List.flatMap_cons, List.flatMap_nil, hitF_neg, allF_zero n k s hb, List.append_nil]
    rfl
theorem calm_games {g : Gm} {plan : List Pos} {a : Int} (h : lostL g plan (List.replicate g.deps.length (-1)) (beginS g) 0 = .ok a) : gamesG (calmG g) (stillL g.budget plan) = ([(List.replicate g.deps.length (-1), a)], none) := by
  rw [gamesG_run]
  have e : allG (calmG g) = [List.replicate g.deps.length (-1)] := allF_zero _ _ _ rfl
  have h2 : lostL (calmG g) (stillL g.budget plan) (List.replicate g.deps.length (-1)) (beginS (calmG g)) 0 = .ok a := (lost_still g plan g.deps.length (beginS g) 0).trans h
  rw [e, runL_cons, h2]
  rfl
/-! ### what Worst answers -/
theorem worstV_no {g : Gm} {plan : List Pos} (h : ¬ VG g) : worstV g plan = ([], 0, 1) := if_neg h
theorem worstV_yes {g : Gm} {plan : List Pos} (h : VG g) : worstV g plan = (match (gamesG g plan).2 with
    | none => ((worstF (gamesG g plan).1).1, (worstF (gamesG g plan).1).2, 0)
    | some e => ([], 0, e)) := if_pos h
structure WoFact (g : Gm) (plan : List Pos) (l : List Int) (m e : Int) : Prop where
  ok : e = 0 → VG g ∧ WorstOk g plan l m ∧ (gamesG g plan).2 = none
  no : e ≠ 0 → l = [] ∧ m = 0 ∧ (e = 1 ∧ ¬ VG g ∨ (e = 2 ∨ e = 5) ∧ VG g)
theorem worst_fact (g : Gm) (plan : List Pos) : WoFact g plan (worstV g plan).1 (worstV g plan).2.1 (worstV g plan).2.2 := by
  by_cases hv : VG g
  · rw [worstV_yes hv]
    cases hg : (gamesG g plan).2 with
    | none => exact ⟨fun _ => ⟨hv, worst_okG hg, hg⟩, fun h => absurd rfl h⟩
    | some e =>
      have h2 := gamesL_err hg
      exact ⟨fun h => by
        have h' : e = 0 := h
        omega, fun _ => ⟨rfl, rfl, .inr ⟨h2, hv⟩⟩⟩
  · rw [worstV_no hv]
    exact ⟨fun h => (by cases h), fun _ => ⟨rfl, rfl, .inl ⟨rfl, hv⟩⟩⟩
theorem WorstOk.in {g : Gm} {plan : List Pos} {W : List Int} {m : Int} (h : WorstOk g plan W m) : 0 ≤ m ∧ m ≤ g.deps.length ∧ W.length = g.deps.length := by
  have h1 := lostL_in h.val
  have h2 := allF_len h.mem
  rw [h2] at h1
  exact ⟨h1.1, by omega, h2⟩
theorem WorstOk.calm {g : Gm} {plan : List Pos} {W : List Int} {m : Int} (h : WorstOk g plan W m) (hv : VG g) : ∃ a, lostN g plan (List.replicate g.deps.length (-1)) = (a, 0) ∧ 0 ≤ a ∧ a ≤ m ∧ worstV (calmG g) (stillL g.budget plan) = (List.replicate g.deps.length (-1), a, 0) := by
  have hm : List.replicate g.deps.length (-1) ∈ allG g := allF_none _ _ _
  obtain ⟨a, h1, h2, h3, _⟩ := h.all _ hm
  refine ⟨a, lostN_ok ⟨hv, (allow_iff hv).2 hm⟩ h1, h2, h3, ?_⟩
  rw [worstV_yes (calm_vg hv), calm_games h1]
  have e : worstF [(List.replicate g.deps.length (-1), a)] = (List.replicate g.deps.length (-1), a) := if_pos (by show (-1 : Int) < a; omega)
  simp only [e]
/-! ### the plans of game -/
theorem maxL_att {l : List Int} (hn : l ≠ []) (h : ∀ x ∈ l, 0 ≤ x) : ∃ x ∈ l, x = maxL l := by
  refine Classical.byContradiction fun hc => ?_
  have hle := (maxL_le (l := l) (x := maxL l)).1 (Int.le_refl _)
  have hlt : ∀ x ∈ l, x ≤ maxL l - 1 := fun x hx => by
    have h1 := hle.2 x hx
    have h2 : x ≠ maxL l := fun e => hc ⟨x, hx, e⟩
    omega
  obtain ⟨x, hx⟩ := List.exists_mem_of_ne_nil l hn
  have h1 := hlt x hx
  have h2 := h x hx
  have := (maxL_le (l := l) (x := maxL l - 1)).2 ⟨by omega, hlt⟩
  omega
theorem PlanR.at' {g : Gm} {l : List PA} (h : PlanR g l) {y : St} (hy : ∃ r ∈ l, r.1.st = y) : posAt (l.map (·.1)) y = some (posS g y) := by
  obtain ⟨r, hr, e⟩ := hy
  cases hp : posAt (l.map (·.1)) y with
  | none =>
    have := List.find?_eq_none.1 hp r.1 (List.mem_map.2 ⟨r, hr, rfl⟩)
    simp [e] at this
  | some p =>
    have h1 : p.st = y := of_decide_eq_true (List.find?_some (p := fun p : Pos => decide (p.st = y)) hp)
    obtain ⟨q, hq, rfl⟩ := List.mem_map.1 (List.mem_of_find?_eq_some hp)
    rw [h.pos q hq, h1]
def Rdy (g : Gm) (l : List PA) (s : St) : Prop := s.turn < g.deps.length → ∀ y ∈ madeL s, ∃ r ∈ l, r.1.st = y
theorem hitF_made {n : Nat} {s : St} {v : Int} (hl : s.failed.length = n) (hb : 0 ≤ s.budget) (hv : -1 ≤ v ∧ v < n) (hok : mvOk s v = true) : hitF s v ∈ madeL s := by
  rw [mem_made]
  by_cases h0 : 0 ≤ v
  · unfold mvOk at hok
    rw [decide_eq_false (by omega), Bool.false_or] at hok
    obtain ⟨h1, h2⟩ := Bool.and_eq_true_iff.1 hok
    refine .inr ⟨v.toNat, by omega, ?_, by simpa using h2, if_pos h0⟩
    have : ¬ s.budget = 0 := by simpa using h1
    omega
  · exact .inl (if_neg h0)
theorem made_hitF {n : Nat} {s y : St} (hl : s.failed.length = n) (hy : y ∈ madeL s) : ∃ v : Int, (-1 ≤ v ∧ v < n) ∧ mvOk s v = true ∧ y = hitF s v := by
  rcases mem_made.1 hy with rfl | ⟨v, h1, h2, h3, rfl⟩
  · exact ⟨-1, by omega, rfl, rfl⟩
  · refine ⟨v, by omega, ?_, (if_pos (by omega)).symm⟩
    unfold mvOk
    rw [Int.toNat_natCast, h3, decide_eq_false (by omega : ¬ s.budget = 0)]
    simp
/-- a turn of a plan of game -/
theorem plan_turn {g : Gm} (hv : VG g) {l : List PA} (h : PlanR g l) {s : St} {v : Int} (hD : Dom g s) (ht : s.turn < g.deps.length) (hR : Rdy g l s) (hy : hitF s v ∈ madeL s) :
    ∃ c one : Int, turnR g (l.map (·.1)) s v = .ok (afterS (hitF s v) c, one) ∧ 0 ≤ one ∧ boundB g (hitF s v) = one + WG g (afterS (hitF s v) c) ∧ Dom g (afterS (hitF s v) c) ∧ Rdy g l (afterS (hitF s v) c) ∧ (afterS (hitF s v) c).turn = s.turn + 1 := by
  obtain ⟨y, he⟩ : ∃ y, y = hitF s v := ⟨_, rfl⟩
  rw [← he] at hy ⊢
  have hex := hR ht y hy
  have hdy := hD.made hy
  have hty := made_turn hy
  have hpos := h.at' hex
  have hcan := BG_can g y
  obtain ⟨c, hc⟩ : ∃ c, c = (BG g y).1 := ⟨_, rfl⟩
  have h0 := hdy.t0
  have hbv : boundB g y = (if c < 0 then 1 else 0) + WG g (afterS y c) := by
    rw [hc]
    exact bvF_val (g := g) (w := WG g) (x := y) fun v hv' => (okDep_domG (hv.2.2.2.2.2 y.turn.toNat (by omega)) hv').1
  rw [← hc] at hcan
  have hch : (posS g y).choice = c := by rw [hc]; rfl
  have hrd : Rdy g l (afterS y c) := fun hlt z hz => by
    obtain ⟨r, hr, er⟩ := hex
    have e1 : r.1.turn = y.turn := by rw [← er]; rfl
    have e2 : r.1.choice = c := by rw [h.pos r hr, er]; exact hch
    refine h.next r hr ?_ z (by rw [er, e2]; exact hz)
    have hlt' : y.turn + 1 < g.deps.length := hlt
    omega
  refine ⟨c, if c < 0 then 1 else 0, ?_, by split <;> omega, hbv, hdy.after (by omega) ?_, hrd, by show y.turn + 1 = _; omega⟩
  · unfold turnR
    rw [← he, hpos]
    show (if (posS g y).choice = -1 then _ else if canQ g y (posS g y).choice then _ else _) = _
    rw [hch]
    rcases hcan with rfl | ⟨h1, h2, h3⟩
    · rfl
    · have hge := (okDep_domG (hv.2.2.2.2.2 y.turn.toNat (by omega)) h1).1
      rw [if_neg (by omega), if_pos ⟨h1, h2, by omega⟩, if_neg (by omega)]
  · rcases hcan with h1 | ⟨_, _, h3⟩
    · exact .inl h1
    · exact .inr h3
theorem mem_after {n k : Nat} {y : St} {c : Int} {G : List Int} : G ∈ allF n k (afterS y c) ↔ G ∈ allF n k y := by rw [allF_congr n k (s := afterS y c) (t := y) rfl rfl]
theorem plan_all {g : Gm} (hv : VG g) {l : List PA} (h : PlanR g l) : ∀ (k : Nat) (s : St) (lo : Int), Dom g s → s.turn + k = g.deps.length → Rdy g l s →
    (∀ F ∈ allF g.starts.length k s, ∃ z, lostL g (l.map (·.1)) F s lo = .ok (lo + z) ∧ 0 ≤ z ∧ z ≤ WG g s) ∧ ∃ F ∈ allF g.starts.length k s, lostL g (l.map (·.1)) F s lo = .ok (lo + WG g s)
  | 0, s, lo, hD, hk, _ => by
    have e : WG g s = 0 := WG_end (by omega)
    rw [e]
    refine ⟨fun F hF => ?_, [], by simp [allF], by rw [Int.add_zero]; rfl⟩
    have hF' : F = [] := by simpa [allF] using hF
    subst hF'
    exact ⟨0, by rw [Int.add_zero]; rfl, Int.le_refl _, Int.le_refl _⟩
  | k + 1, s, lo, hD, hk, hR => by
    have ht : s.turn < g.deps.length := by omega
    have hW := WG_on hD.t0 ht
    have hbd := hD.b1
    refine ⟨fun F hF => ?_, ?_⟩
    · obtain ⟨v, G, rfl, hvr, hok, hG⟩ := mem_allF.1 hF
      have hy := hitF_made hD.lf hbd hvr hok
      obtain ⟨c, one, h1, h2, h3, h4, h5, h6⟩ := plan_turn hv h hD ht hR hy
      obtain ⟨z, hz1, hz2, hz3⟩ := (plan_all hv h k (afterS (hitF s v) c) (lo + one) h4 (by omega) h5).1 G (mem_after.2 hG)
      refine ⟨one + z, by rw [lostL_cons, h1]; simp only; rw [hz1, Int.add_assoc], by omega, ?_⟩
      have hle := ((maxL_le (l := (madeL s).map fun x => (BG g x).2) (x := WG g s)).1 (by rw [hW]; exact Int.le_refl _)).2 _ (List.mem_map.2 ⟨_, hy, rfl⟩)
      have h3' : (BG g (hitF s v)).2 = one + WG g (afterS (hitF s v) c) := h3
      omega
    · obtain ⟨x, hx, ex⟩ := maxL_att (l := (madeL s).map fun x => (BG g x).2) (by simp [madeL]) (fun x hx => by
        obtain ⟨y, _, rfl⟩ := List.mem_map.1 hx
        exact (boundB_in hv y).1)
      obtain ⟨y, hy, rfl⟩ := List.mem_map.1 hx
      obtain ⟨v, hvr, hok, rfl⟩ := made_hitF hD.lf hy
      obtain ⟨c, one, h1, h2, h3, h4, h5, h6⟩ := plan_turn hv h hD ht hR hy
      obtain ⟨G, hG, hz⟩ := (plan_all hv h k (afterS (hitF s v) c) (lo + one) h4 (by omega) h5).2
      refine ⟨v :: G, mem_allF.2 ⟨v, G, rfl, hvr, hok, mem_after.1 hG⟩, ?_⟩
      rw [lostL_cons, h1]
      simp only
      have h3' : (BG g (hitF s v)).2 = one + WG g (afterS (hitF s v) c) := h3
      rw [hz, hW, ← ex, h3', Int.add_assoc]
/-- what the laws say of a plan of game -/
structure PlansF (g : Gm) (plan : List Pos) (W : List Int) : Prop where
  worst : worstV g plan = (W, WG g (beginS g), 0)
  len : W.length = g.deps.length
  mem : W ∈ allG g
  yes : ∀ F, AllowG g F → ∃ a, lostN g plan F = (a, 0) ∧ 0 ≤ a ∧ a ≤ WG g (beginS g)
  val : lostN g plan W = (WG g (beginS g), 0)
theorem plans_fact {g : Gm} (hv : VG g) {l : List PA} (h : PlanR g l) : ∃ W, PlansF g (l.map (·.1)) W := by
  obtain ⟨h1, F0, hF0, hv0⟩ := plan_all hv h g.deps.length (beginS g) 0 (Dom.begin hv) (by show (0 : Int) + _ = _; omega) (fun ht => h.first (by have ht' : (0 : Int) < g.deps.length := ht; omega))
  have hnone : (gamesG g (l.map (·.1))).2 = none := by
    rw [gamesG_run]
    exact runL_all fun F hF => by
      obtain ⟨z, hz, _⟩ := h1 F hF
      exact ⟨_, hz⟩
  have hok := worst_okG hnone
  have hWv := worstV_yes (plan := l.map (·.1)) hv
  rw [hnone] at hWv
  obtain ⟨W, hW⟩ : ∃ W, W = (worstF (gamesG g (l.map (·.1))).1).1 := ⟨_, rfl⟩
  obtain ⟨m, hm⟩ : ∃ m, m = (worstF (gamesG g (l.map (·.1))).1).2 := ⟨_, rfl⟩
  simp only [← hW, ← hm] at hok hWv
  have hme : m = WG g (beginS g) := by
    obtain ⟨z, hz, _, hz2⟩ := h1 W hok.mem
    obtain ⟨x, hx, _, hx2, _⟩ := hok.all F0 hF0
    rw [hok.val] at hz
    rw [hv0] at hx
    cases hx
    cases hz
    omega
  rw [hme] at hWv hok
  refine ⟨W, hWv, hok.in.2.2, hok.mem, fun F hF => ?_, lostN_ok ⟨hv, (allow_iff hv).2 hok.mem⟩ hok.val⟩
  obtain ⟨x, hx, h2, h3, _⟩ := hok.all F ((allow_iff hv).1 hF)
  exact ⟨x, lostN_ok ⟨hv, hF⟩ hx, h2, h3⟩
end Go.Proofs.Ytgccankekflchaa
namespace Go.Proofs.Ytgccankekflchaa
open Go.RowKit Go.Maps

theorem bef_drop {F W : List Int} {i : Nat} (h1 : i < F.length) (h2 : i < W.length) : bef (F.drop i) (W.drop i) = (decide (ig F i < ig W i) || (decide (ig F i = ig W i) && bef (F.drop (i + 1)) (W.drop (i + 1)))) := by
  rw [List.drop_eq_getElem_cons h1, List.drop_eq_getElem_cons h2, ig_lt h1, ig_lt h2]
  rfl
theorem bef_done {F W : List Int} {i : Nat} (h : F.length ≤ i ∨ W.length ≤ i) : bef (F.drop i) (W.drop i) = false := by
  rcases h with h | h
  · rw [List.drop_eq_nil_of_le h]
    cases W.drop i <;> rfl
  · rw [List.drop_eq_nil_of_le h]
    cases F.drop i <;> rfl
theorem fold_mem {n : Nat} (hn : n ≤ 6) : ∀ {F : List Int} {fb : List Bool} {c : Int} {y : List Bool × Int}, fb.length = 6 → F.foldl (failStep n) (some (fb, c)) = some y → y.1.length = 6 ∧ ∀ v, v < 6 → bg y.1 v = (bg fb v || decide ((v : Int) ∈ F))
  | [], fb, c, y, hl, h => by
    cases h
    exact ⟨hl, fun v _ => by simp⟩
  | f :: F, fb, c, y, hl, h => by
    rw [List.foldl_cons] at h
    by_cases hbad : f < -1 ∨ (n : Int) ≤ f ∨ (0 ≤ f ∧ bg fb f.toNat = true)
    · rw [show failStep n (some (fb, c)) f = none from if_pos hbad, failO_none] at h
      cases h
    · by_cases h0 : 0 ≤ f
      · rw [show failStep n (some (fb, c)) f = some (fb.set f.toNat true, c + 1) from by
          show (if _ then _ else _) = _
          rw [if_neg hbad, if_pos h0]] at h
        obtain ⟨h1, h2⟩ := fold_mem hn (by rw [List.length_set]; exact hl) h
        refine ⟨h1, fun v hv => ?_⟩
        rw [h2 v hv, bg_setT (by omega)]
        by_cases e : f.toNat = v
        · rw [if_pos e]
          have : (v : Int) ∈ f :: F := by rw [List.mem_cons]; exact .inl (by omega)
          rw [decide_eq_true this]
          simp
        · rw [if_neg e]
          have : ((v : Int) ∈ f :: F) ↔ (v : Int) ∈ F := by
            rw [List.mem_cons]
            exact ⟨fun h => h.resolve_left (by omega), .inr⟩
          rw [decide_eq_decide.2 this]
      · rw [show failStep n (some (fb, c)) f = some (fb, c) from by
          show (if _ then _ else _) = _
          rw [if_neg hbad, if_neg h0]] at h
        obtain ⟨h1, h2⟩ := fold_mem hn hl h
        refine ⟨h1, fun v hv => ?_⟩
        have : ((v : Int) ∈ f :: F) ↔ (v : Int) ∈ F := by
          rw [List.mem_cons]
          exact ⟨fun h => h.resolve_left (by omega), .inr⟩
        rw [h2 v hv, decide_eq_decide.2 this]
noncomputable def allowB (g : Gm) (F : List Int) : Bool := @decide (AllowG g F) (Classical.propDecidable _)
theorem allowB_true {g : Gm} {F : List Int} (h : AllowG g F) : allowB g F = true := by unfold allowB; exact @decide_eq_true _ (Classical.propDecidable _) h
theorem allowB_false {g : Gm} {F : List Int} (h : ¬ AllowG g F) : allowB g F = false := by unfold allowB; exact @decide_eq_false _ (Classical.propDecidable _) h
theorem allowB_dec {g : Gm} {F : List Int} {c : Int} (hl : F.length = g.deps.length) {fb : List Bool} (hf : F.foldl (failStep g.starts.length) (some (List.replicate 6 false, 0)) = some (fb, c)) : allowB g F = decide (c ≤ g.budget) := by
  by_cases h : c ≤ g.budget
  · rw [decide_eq_true h]
    exact allowB_true ⟨hl, _, hf, h⟩
  · rw [decide_eq_false h]
    refine allowB_false ?_
    rintro ⟨_, x, hx, hb⟩
    unfold failO at hx
    rw [hf] at hx
    cases hx
    exact h hb
theorem allowB_bad {g : Gm} {F : List Int} {i : Nat} (h : (F.take i).foldl (failStep g.starts.length) (some (List.replicate 6 false, 0)) = none) : allowB g F = false := by
  refine allowB_false ?_
  rintro ⟨_, x, hx, _⟩
  unfold failO at hx
  rw [← List.take_append_drop i F, List.foldl_append, h, failO_none] at hx
  cases hx
theorem Ints.takeI {w : World} {a : Option Addr} {l : List Int} (h : Ints w a l) (i : Nat) : Ints w a (l.take i) := fun j hj => by
  rw [List.length_take] at hj
  obtain ⟨b, off, e, hc⟩ := h j (by omega)
  refine ⟨b, off, e, ?_⟩
  rw [hc, ig_lt (by omega), ig_lt (by rw [List.length_take]; exact hj), List.getElem_take]
theorem fail_bad {n : Nat} {x : List Bool × Int} {f : Int} (h : f < -1 ∨ (n : Int) ≤ f ∨ (0 ≤ f ∧ bg x.1 f.toNat = true)) : [f].foldl (failStep n) (some x) = none := if_pos h
theorem fail_neg {n : Nat} {x : List Bool × Int} : [(-1 : Int)].foldl (failStep n) (some x) = some x := by
  show (if _ then _ else _) = _
  rw [if_neg (by omega), if_neg (by omega)]
theorem fail_set {n : Nat} {x : List Bool × Int} {f : Int} (h0 : 0 ≤ f) (h1 : f < n) (h2 : bg x.1 f.toNat = false) : [f].foldl (failStep n) (some x) = some (x.1.set f.toNat true, x.2 + 1) := by
  show (if _ then _ else _) = _
  rw [if_neg (by rw [h2]; simp; omega), if_pos h0]
structure FewP (g : Gm) (l : List PA) : Prop where
  d : g.deps.length ≤ 5
  s : g.starts.length ≤ 3
  n : l.length ≤ 400
  r : ∀ i, i < g.deps.length → (dg g i).length ≤ 10
theorem FewP.few {g : Gm} {l : List PA} (h : FewP g l) : GmFew g := ⟨by have := h.s; omega, by have := h.d; omega, fun i hi => by have := h.r i hi; omega⟩
def RetFp (g : Gm) (l : List PA) (w : World) (e : Ending) (w' : World) : Prop := Below w.heap.size w w' ∧ (e = .returned (.bool false) ∨ e = .returned (.bool true) ∧ FewP g l)
end Go.Proofs.Ytgccankekflchaa
namespace Go.Proofs.Ytgccankekflchaa
open Go.ChangeShapes Go.WideShapes Go.ChangeAt Go.RowKit Go.Joins Go.Deep

theorem PlanAt.lap {w : World} {a : Option Addr} {plan : List Pos} {pv : Nat → Value} (h : PlanAt w a plan pv) : ∃ l : List PA, l.map (·.1) = plan ∧ LaP w a l := by
  obtain ⟨l, h1, h2, h3⟩ := h.list
  refine ⟨l, h1, ⟨fun j u hu => ?_, h2⟩⟩
  have hj : 0 < plan.length := by
    rw [← h1, List.length_map]
    have h4 := (List.getElem?_eq_some_iff.1 hu).1
    have h5 : (l.flatMap psCs).length = l.length * 6 := psCs_len l
    have h4' : j < (l.flatMap psCs).length := h4
    omega
  obtain ⟨b, off, _, _, _, _, ha, _⟩ := h 0 hj
  exact ⟨b, off, ha, h3 b off ha j u hu⟩
section
variable {H : Type} {enc : TypeId × Value → H} {w : World} {held : Bool}
set_option maxRecDepth 100000 in
theorem open_ints_at {b0 : Nat} {r : Reach} {v : Value} {d : DataW H} {p : List MemPlace} (hv : Value.okWide Try.prog w r b0 22 v) (h : DataW.Trod enc Try.prog w 0 (fun _ => true) held 22 v d p) :
    ∃ (a : Option Addr) (c : Nat) (l : List Int), v = .slice a l.length c ∧ Ints w a l ∧ l.length < 9223372036854775808 ∧ l.length ≤ c := by
  obtain ⟨a, len, cap, rfl⟩ := okWide_slice Try.underlying22 hv
  obtain ⟨fuel, hf⟩ := h
  rcases open_ints Try.underlying22 Try.underlying3 (by kernel_rfl) hf with ⟨hcs, _⟩ | ⟨a, len, cap, zs, hcs, _, hl, hm, hz, _, hc, hw⟩
  · simp [Value.cells] at hcs
    obtain ⟨rfl, rfl, rfl⟩ := hcs
    exact ⟨none, 0, [], rfl, Ints.nil _ _, by simp, by simp⟩
  · simp [Value.cells] at hcs
    obtain ⟨rfl, rfl, rfl⟩ := hcs
    simp at hz
    unfold maxLen at hm
    have hlen : (zs.take len).length = len := by simp; omega
    refine ⟨some a, cap, zs.take len, by rw [hlen], fun j hj => ?_, by omega, by omega⟩
    rw [hlen] at hj
    obtain ⟨b, off, rfl, hc'⟩ := cells_at (n := zs.length) (by omega) hc
    refine ⟨b, off, rfl, ?_⟩
    rw [hc' j (by omega)]
    simp [ig, List.getD, hj]
set_option maxRecDepth 100000 in
theorem open_plan {b0 : Nat} {r : Reach} {v : Value} {d : DataW H} {p : List MemPlace} (hv : Value.okWide Try.prog w r b0 28 v) (h : DataW.Trod enc Try.prog w 0 (fun _ => true) held 28 v d p) :
    ∃ (l : List PA) (a : Option Addr) (c : Nat), v = .slice a l.length c ∧ LaP w a l ∧ InP l ∧ l.length < 9223372036854775808 := by
  obtain ⟨a, c, l, pv, rfl, hP, h1, _, _, h4⟩ := open_poss hv h
  obtain ⟨L, rfl, hL⟩ := hP.lap
  rw [List.length_map] at h1
  refine ⟨L, a, c, by rw [List.length_map], hL, fun x hx _ => ?_, h1⟩
  obtain ⟨h5, _⟩ := h4 x.1 (List.mem_map.2 ⟨x, hx, rfl⟩)
  exact ⟨h5.t, h5.b, h5.s⟩
end
theorem lostV_eq (g : Gm) (plan : List Pos) (F : List Int) : lostV g plan F = .tuple #[.int .i64 (lostN g plan F).1, .int .i64 (lostN g plan F).2] := by
  by_cases h : VG g ∧ AllowG g F
  · rw [lostN_yes h]
    unfold lostV
    rw [if_pos h]
    cases lostL g plan F (beginS g) 0 <;> rfl
  · rw [lostV_no h, lostN_no h]
end Go.Proofs.Ytgccankekflchaa
namespace Go.Proofs.Ytgccankekflchaa
open Go.RowKit Go.Maps

/-! ### the plan of a game is accepted for its value, and for nothing less -/
theorem BG_neg {g : Gm} (hv : VG g) {y : St} (h0 : 0 ≤ y.turn) (ht : y.turn < g.deps.length) : (BG g y).1 < 0 ↔ (BG g y).1 = -1 := by
  constructor
  · intro h
    rcases BG_can g y with h1 | ⟨h1, _⟩
    · exact h1
    · have := (okDep_domG (hv.2.2.2.2.2 y.turn.toNat (by omega)) h1).1
      omega
  · intro h; omega
theorem boundB_eq {g : Gm} (hv : VG g) {y : St} (h0 : 0 ≤ y.turn) (ht : y.turn < g.deps.length) : boundB g y = (if (BG g y).1 = -1 then 1 else 0) + WG g (afterS y (BG g y).1) := by
  have h := bvF_val (g := g) (w := WG g) (x := y) fun v hv' => (okDep_domG (hv.2.2.2.2.2 y.turn.toNat (by omega)) hv').1
  have e : (if (BG g y).1 < 0 then (1 : Int) else 0) = if (BG g y).1 = -1 then 1 else 0 := by
    by_cases h1 : (BG g y).1 = -1
    · rw [if_pos h1, if_pos (by omega)]
    · rw [if_neg h1, if_neg (fun h2 => h1 ((BG_neg hv h0 ht).1 h2))]
  rw [← e]
  exact h
theorem le_WG {g : Gm} {s x : St} (h0 : 0 ≤ s.turn) (ht : s.turn < g.deps.length) (hx : x ∈ madeL s) : boundB g x ≤ WG g s := by
  have hW := WG_on h0 ht
  have := ((maxL_le (l := (madeL s).map fun x => (BG g x).2) (x := WG g s)).1 (by rw [hW]; exact Int.le_refl _)).2 _ (List.mem_map.2 ⟨_, hx, rfl⟩)
  exact this
theorem plan_okAt {g : Gm} (hv : VG g) {l : List PA} (h : PlanR g l) {x : St} (hx : ∃ r ∈ l, r.1.st = x) {b : Int} (hb : boundB g x ≤ b) : okAt (l.map (·.1)) x b :=
  ⟨posS g x, h.at' hx, (boundB_in hv x).1, hb⟩
theorem plan_rch {g : Gm} {l : List PA} (h : PlanR g l) (hd : g.deps ≠ []) {s : St} (hr : Rch g (l.map (·.1)) s) : ∃ r ∈ l, r.1.st = s := by
  induction hr with
  | first hx => exact h.first (List.length_pos_iff.2 hd) _ hx
  | @next s x p hs hp ht hx ih =>
    have e := h.at' ih
    rw [e] at hp
    cases hp
    obtain ⟨r, hr, er⟩ := ih
    have hdm := h.dom r hr
    have e1 : r.1.turn = s.turn := by rw [← er]; rfl
    have e2 : r.1.choice = (posS g s).choice := by rw [h.pos r hr, er]
    refine h.next r hr ?_ x (by rw [er, e2]; exact hx)
    have := hdm.2
    omega
theorem plan_acc {g : Gm} (hv : VG g) {l : List PA} (h : PlanR g l) : Acc g (l.map (·.1)) (WG g (beginS g)) := by
  refine ⟨hv, fun _ => (WG_in hv _).1, fun hd => ⟨fun x hx => ?_, fun s hs => ?_⟩⟩
  · have h0 : (0 : Int) < g.deps.length := by have := List.length_pos_iff.2 hd; omega
    exact plan_okAt hv h (h.first (List.length_pos_iff.2 hd) _ hx) (le_WG (s := beginS g) (Int.le_refl _) h0 hx)
  · obtain ⟨r, hr, er⟩ := plan_rch h hd hs
    have hat := h.at' ⟨r, hr, er⟩
    have hdm := h.dom r hr
    rw [er] at hdm
    have e1 : r.1.turn = s.turn := by rw [← er]; rfl
    have ht : s.turn < g.deps.length := by have := hdm.2; omega
    have h0 := hdm.1.t0
    have hb := boundB_eq hv h0 ht
    have e2 : r.1.choice = (posS g s).choice := by rw [h.pos r hr, er]
    have hl : lostP (posS g s) = if (BG g s).1 = -1 then 1 else 0 := rfl
    refine ⟨posS g s, hat, BG_can g s, fun hl2 => ?_, fun hl2 x hx => ?_⟩
    · show lostP (posS g s) ≤ boundB g s
      rw [hb, hl, WG_end (by show (g.deps.length : Int) ≤ s.turn + 1; omega)]
      omega
    · refine plan_okAt hv h (h.next r hr (by omega) x (by rw [er, e2]; exact hx)) ?_
      show boundB g x ≤ boundB g s - lostP (posS g s)
      rw [hb, hl]
      have := le_WG (g := g) (s := afterS s (BG g s).1) (x := x) (by show 0 ≤ s.turn + 1; omega) (by show s.turn + 1 < _; omega) hx
      omega
theorem plan_nacc {g : Gm} (hv : VG g) {l : List PA} (h : PlanR g l) {b : Int} (hb : b < WG g (beginS g)) : ¬ Acc g (l.map (·.1)) b := by
  intro ha
  by_cases hd : g.deps = []
  · have h1 := ha.2.1 hd
    rw [WG_end (by rw [hd]; exact Int.le_refl _)] at hb
    omega
  · have h1 := (ha.2.2 hd).1
    have h0 : (beginS g).turn < g.deps.length := by have := List.length_pos_iff.2 hd; show (0 : Int) < _; omega
    have hW := WG_on (g := g) (s := beginS g) (Int.le_refl _) h0
    obtain ⟨x, hx, ex⟩ := maxL_att (l := (madeL (beginS g)).map fun x => (BG g x).2) (by simp [madeL]) (fun x hx => by
      obtain ⟨y, _, rfl⟩ := List.mem_map.1 hx
      exact (boundB_in hv y).1)
    obtain ⟨y, hy, rfl⟩ := List.mem_map.1 hx
    obtain ⟨p, hp, _, hpb⟩ := h1 y hy
    rw [h.at' (h.first (List.length_pos_iff.2 hd) _ hy)] at hp
    cases hp
    have e : (posS g y).bound = (BG g y).2 := rfl
    rw [e, ex, ← hW] at hpb
    omega
/-! ### what is accepted binds -/
def Good (g : Gm) (plan : List Pos) (s : St) (b : Int) : Prop := 0 ≤ b ∧ (s.turn < g.deps.length → ∀ x ∈ madeL s, okAt plan x b ∧ Rch g plan x)
theorem acc_turn {g : Gm} {plan : List Pos} (hn : ∀ s, Rch g plan s → Node g plan s) {s : St} {v b : Int} (hD : Dom g s) (ht : s.turn < g.deps.length) (hG : Good g plan s b) (hy : hitF s v ∈ madeL s) :
    ∃ c one b' : Int, turnR g plan s v = .ok (afterS (hitF s v) c, one) ∧ 0 ≤ one ∧ one + b' ≤ b ∧ (c = -1 ∧ one = 1 ∨ one = 0 ∧ c ∈ dg g (hitF s v).turn.toNat ∧ bg (hitF s v).failed c.toNat = false ∧ 0 < ig (hitF s v).starts c.toNat) ∧ Dom g (afterS (hitF s v) c) ∧ Good g plan (afterS (hitF s v) c) b' ∧ (afterS (hitF s v) c).turn = s.turn + 1 := by
  obtain ⟨y, he⟩ : ∃ y, y = hitF s v := ⟨_, rfl⟩
  rw [← he] at hy ⊢
  obtain ⟨hok, hr⟩ := hG.2 ht y hy
  obtain ⟨p, hp, hcan, hlast, hnext⟩ := hn y hr
  obtain ⟨p', hp', hb0, hb1⟩ := hok
  rw [hp] at hp'
  cases hp'
  have hdy := hD.made hy
  have hty := made_turn hy
  have h0 := hdy.t0
  have hdom : Dom g (afterS y p.choice) := hdy.after (by omega) (hcan.imp id fun h => h.2.2)
  have hgood : Good g plan (afterS y p.choice) (p.bound - lostP p) := by
    by_cases hl : y.turn + 1 = g.deps.length
    · exact ⟨by have := hlast hl; omega, fun h => by
        have h' : y.turn + 1 < g.deps.length := h
        omega⟩
    · have h1 := hnext hl
      refine ⟨?_, fun _ x hx => ⟨h1 x hx, Rch.next hr hp hl hx⟩⟩
      obtain ⟨q, _, hq0, hq1⟩ := h1 (afterS y p.choice) (by simp [madeL])
      omega
  by_cases hc : p.choice = -1
  · have hlp : lostP p = 1 := if_pos hc
    rw [hc] at hdom hgood
    refine ⟨-1, 1, p.bound - lostP p, ?_, by omega, by omega, .inl ⟨rfl, rfl⟩, hdom, hgood, by show y.turn + 1 = _; omega⟩
    unfold turnR
    rw [← he, hp]
    exact if_pos hc
  · have hlp : lostP p = 0 := if_neg hc
    rcases hcan with h1 | ⟨h1, h2, h3⟩
    · exact absurd h1 hc
    · refine ⟨p.choice, 0, p.bound - lostP p, ?_, Int.le_refl _, by omega, .inr ⟨rfl, h1, h2, h3⟩, hdom, hgood, by show y.turn + 1 = _; omega⟩
      unfold turnR
      rw [← he, hp]
      show (if p.choice = -1 then _ else if canQ g y p.choice then _ else _) = _
      rw [if_neg hc, if_pos ⟨h1, h2, by omega⟩]
theorem acc_all {g : Gm} (hv : VG g) {plan : List Pos} (hn : ∀ s, Rch g plan s → Node g plan s) : ∀ (k : Nat) (s : St) (b lo : Int), Dom g s → s.turn + k = g.deps.length → Good g plan s b →
    (∀ F ∈ allF g.starts.length k s, ∃ z, lostL g plan F s lo = .ok (lo + z) ∧ z ≤ b) ∧ WG g s ≤ b
  | 0, s, b, lo, hD, hk, hG => by
    refine ⟨fun F hF => ?_, by rw [WG_end (by omega)]; exact hG.1⟩
    have hF' : F = [] := by simpa [allF] using hF
    subst hF'
    exact ⟨0, by rw [Int.add_zero]; rfl, hG.1⟩
  | k + 1, s, b, lo, hD, hk, hG => by
    have ht : s.turn < g.deps.length := by omega
    refine ⟨fun F hF => ?_, ?_⟩
    · obtain ⟨v, G, rfl, hvr, hok, hG2⟩ := mem_allF.1 hF
      have hy := hitF_made hD.lf hD.b1 hvr hok
      obtain ⟨c, one, b', h1, h2, h3, _, h4, h5, h6⟩ := acc_turn hn hD ht hG hy
      obtain ⟨z, hz1, hz2⟩ := (acc_all hv hn k (afterS (hitF s v) c) b' (lo + one) h4 (by omega) h5).1 G (mem_after.2 hG2)
      exact ⟨one + z, by rw [lostL_cons, h1]; simp only; rw [hz1, Int.add_assoc], by omega⟩
    · rw [WG_on hD.t0 ht, maxL_le]
      refine ⟨hG.1, fun u hu => ?_⟩
      obtain ⟨y, hy, rfl⟩ := List.mem_map.1 hu
      obtain ⟨v, hvr, hok, rfl⟩ := made_hitF hD.lf hy
      obtain ⟨c, one, b', h1, h2, h3, hcc, h4, h5, h6⟩ := acc_turn hn hD ht hG hy
      have hw := (acc_all hv hn k (afterS (hitF s v) c) b' lo h4 (by omega) h5).2
      show (bvF g (WG g) (hitF s v)).2 ≤ b
      rw [bvF_le]
      rcases hcc with ⟨rfl, rfl⟩ | ⟨rfl, hm, hf, hs⟩
      · exact .inl (by omega)
      · exact .inr ⟨c, hm, ⟨hf, hs⟩, by omega⟩
/-- what an accepted plan is worth -/
structure Binds (g : Gm) (plan : List Pos) (b : Int) : Prop where
  val : WG g (beginS g) ≤ b
  lost : ∀ F, (lostN g plan F).2 = 1 ∨ (lostN g plan F).2 = 0 ∧ (lostN g plan F).1 ≤ b
  worst : (worstV g plan).2.2 = 0 ∧ (worstV g plan).2.1 ≤ b
theorem acc_binds {g : Gm} {plan : List Pos} {b : Int} (h : Acc g plan b) : Binds g plan b := by
  have hv := h.1
  have key : (∀ F ∈ allG g, ∃ z, lostL g plan F (beginS g) 0 = .ok (0 + z) ∧ z ≤ b) ∧ WG g (beginS g) ≤ b := by
    by_cases hd : g.deps = []
    · have h1 := h.2.1 hd
      have h0 : g.deps.length = 0 := by rw [hd]; rfl
      refine ⟨fun F hF => ?_, by rw [WG_end (by rw [hd]; exact Int.le_refl _)]; exact h1⟩
      have hl := allF_len hF
      rw [h0] at hl
      have : F = [] := List.eq_nil_of_length_eq_zero hl
      subst this
      exact ⟨0, rfl, h1⟩
    · obtain ⟨h1, h2⟩ := h.2.2 hd
      have hg : Good g plan (beginS g) b := by
        refine ⟨?_, fun _ x hx => ⟨h1 x hx, Rch.first hx⟩⟩
        obtain ⟨p, _, hp0, hp1⟩ := h1 (beginS g) (by simp [madeL])
        omega
      exact acc_all hv h2 g.deps.length (beginS g) b 0 (Dom.begin hv) (by show (0 : Int) + _ = _; omega) hg
  obtain ⟨hall, hval⟩ := key
  refine ⟨hval, fun F => ?_, ?_⟩
  · by_cases hA : AllowG g F
    · obtain ⟨z, hz, hzb⟩ := hall F ((allow_iff hv).1 hA)
      rw [lostN_ok ⟨hv, hA⟩ hz]
      exact .inr ⟨rfl, by show 0 + z ≤ b; omega⟩
    · rw [lostN_no fun h => hA h.2]
      exact .inl rfl
  · have hnone : (gamesG g plan).2 = none := by
      rw [gamesG_run]
      exact runL_all fun F hF => by
        obtain ⟨z, hz, _⟩ := hall F hF
        exact ⟨_, hz⟩
    have hok := worst_okG hnone
    have e := worstV_yes (plan := plan) hv
    rw [hnone] at e
    rw [e]
    refine ⟨rfl, ?_⟩
    obtain ⟨z, hz, hzb⟩ := hall _ hok.mem
    rw [hok.val] at hz
    show (worstF (gamesG g plan).1).2 ≤ b
    have hz2 := congrArg okV hz
    have hz3 : (worstF (gamesG g plan).1).2 = 0 + z := hz2
    omega
/-- playing a plan of game -/
def playB (g : Gm) : List Int → St → Int → Int
  | [], _, n => n
  | f :: F, s, n => playB g F (afterS (hitF s f) (BG g (hitF s f)).1) (n + if (BG g (hitF s f)).1 < 0 then 1 else 0)
theorem plan_play {g : Gm} (hv : VG g) {l : List PA} (h : PlanR g l) : ∀ (k : Nat) (F : List Int) (s : St) (lo : Int), Dom g s → s.turn + k = g.deps.length → Rdy g l s → F ∈ allF g.starts.length k s → lostL g (l.map (·.1)) F s lo = .ok (playB g F s lo)
  | 0, F, s, lo, _, _, _, hF => by
    have hF' : F = [] := by simpa [allF] using hF
    subst hF'
    rfl
  | k + 1, F, s, lo, hD, hk, hR, hF => by
    have ht : s.turn < g.deps.length := by omega
    obtain ⟨v, G, rfl, hvr, hok, hG⟩ := mem_allF.1 hF
    have hy := hitF_made hD.lf hD.b1 hvr hok
    obtain ⟨c, one, h1, h2, h3, h4, h5, h6⟩ := plan_turn hv h hD ht hR hy
    have hpos := h.at' (hR ht _ hy)
    have hdy := hD.made hy
    have hty := made_turn hy
    have h0 := hdy.t0
    have e : turnR g (l.map (·.1)) s v = .ok (afterS (hitF s v) (BG g (hitF s v)).1, if (BG g (hitF s v)).1 < 0 then 1 else 0) := by
      unfold turnR
      rw [hpos]
      show (if (BG g (hitF s v)).1 = -1 then _ else if canQ g (hitF s v) (BG g (hitF s v)).1 then _ else _) = _
      rcases BG_can g (hitF s v) with hc | ⟨c1, c2, c3⟩
      · rw [if_pos hc, hc]
        rfl
      · have hge := (okDep_domG (hv.2.2.2.2.2 (hitF s v).turn.toNat (by omega)) c1).1
        rw [if_neg (by omega), if_pos ⟨c1, c2, by omega⟩, if_neg (by omega)]
        rfl
    rw [h1] at e
    have e1 := congrArg (fun r : Except Int (St × Int) => match r with | .ok y => y.1 | .error _ => s) e
    have e2 := congrArg (fun r : Except Int (St × Int) => match r with | .ok y => y.2 | .error _ => 0) e
    simp only at e1 e2
    rw [lostL_cons, h1]
    simp only
    rw [plan_play hv h k G _ _ h4 (by omega) h5 (mem_after.2 hG), e1, e2]
    rfl
theorem plan_lost {g : Gm} (hv : VG g) {l : List PA} (h : PlanR g l) {F : List Int} (hF : F ∈ allG g) : lostN g (l.map (·.1)) F = (playB g F (beginS g) 0, 0) :=
  lostN_ok ⟨hv, (allow_iff hv).2 hF⟩ (plan_play hv h g.deps.length F (beginS g) 0 (Dom.begin hv) (by show (0 : Int) + _ = _; omega) (fun ht => h.first (by have ht' : (0 : Int) < g.deps.length := ht; omega)) hF)
/-- in memory: a list as the checker reads it -/
theorem LaP.planAt {w : World} {a : Option Addr} {l : List PA} (h : LaP w a l) : PlanAt w a (l.map (·.1)) (pvL l) := fun k hk => by
  rw [List.length_map] at hk
  obtain ⟨b, off, rfl, _⟩ := h.at'.head (by omega)
  have hr := h.at'.range hk
  rw [show off + k * EQ.S = off + k * 6 from rfl] at hr
  refine ⟨b, off, l[k].2.1, l[k].2.2.1, l[k].2.2.2.1, l[k].2.2.2.2, rfl, ?_, ?_, ?_⟩
  · unfold pvL
    rw [List.getElem?_eq_getElem hk]
    simp
  · simp only [List.getElem_map]
    exact ⟨hr 0 _ rfl, hr 1 _ rfl, hr 2 _ rfl, hr 3 _ rfl, hr 4 _ rfl, hr 5 _ rfl⟩
  · simp only [List.getElem_map]
    exact h.ps _ (List.getElem_mem hk)
end Go.Proofs.Ytgccankekflchaa
namespace Go.Proofs.Ytgccankekflchaa
open Go.RowKit Go.Maps

theorem VG_fewT {g : Gm} (h : VG g) : GmFew g := ⟨by have := h.1; omega, by have := h.2.1; omega, fun i hi => by have := okDep_len (h.2.2.2.2.2 i hi); have := h.1; omega⟩
theorem dom_inS {g : Gm} (hv : VG g) {s : St} (h : Dom g s) : InS s := by
  have hb := h.b0
  have h2 := hv.2.2.2.1
  have h5 := h.b1
  have hs := h.sts hv
  refine ⟨⟨?_, ?_⟩, ⟨by omega, by omega⟩, fun i => ⟨?_, ?_⟩⟩
  · have := hs.1.1; omega
  · have := hs.1.2; omega
  · have := (hs.2 i).1; omega
  · have := (hs.2 i).2; omega
theorem NF_mono {a : Nat} : ∀ {b : Nat}, a ≤ b → NF a ≤ NF b
  | 0, h => by obtain rfl : a = 0 := by omega
               exact Nat.le_refl _
  | b + 1, h => by
    by_cases e : a = b + 1
    · subst e; exact Nat.le_refl _
    · have := NF_mono (a := a) (b := b) (by omega)
      show NF a ≤ 7 * (1 + NF b)
      omega
theorem plan_few {g : Gm} (hv : VG g) (h5 : g.deps.length ≤ 5) {l : List PA} (hp : PlanOf g (l.map (·.1))) : l.length ≤ 20000 := by
  have h1 := followL_len hv g.deps.length (beginS g) [] (Dom.begin hv) (by show (0 : Int) + _ ≤ _; omega)
  have h2 := NF_mono h5
  have h3 : NF 5 ≤ 20000 := by decide
  have h4 := hp.p.length_eq
  simp only [List.length_map, List.length_nil] at h1 h4
  omega
/-- what a plan of game brings to the calls -/
structure PlanG (g : Gm) (l : List PA) : Prop where
  r : PlanR g l
  n : l.length ≤ 20000
  i : InP l
  p : ∀ p ∈ l.map (·.1), PosIn p
theorem PlanG.of {g : Gm} (hv : VG g) (h5 : g.deps.length ≤ 5) {l : List PA} (hp : PlanOf g (l.map (·.1))) : PlanG g l := by
  have hr := hp.rows hv
  refine ⟨hr, plan_few hv h5 hp, fun x hx _ => dom_inS hv (hr.dom x hx).1, fun p hp => ?_⟩
  obtain ⟨q, hq, rfl⟩ := List.mem_map.1 hp
  have h1 := dom_inS hv (hr.dom q hq).1
  have h2 := boundB_in hv q.1.st
  have e : q.1.bound = boundB g q.1.st := by rw [hr.pos q hq]; rfl
  exact ⟨h1.1, h1.2.1, h1.2.2, by rw [e]; exact ⟨by omega, by omega⟩⟩
theorem acceptL (g : Gm) (sa da : Option Addr) (sc dc : Nat) (l : List PA) (a : Option Addr) (c : Nat) (bound : Int) (w : World) (hG : GmAt w g sa da) (hv : VG g) (hL : LaP w a l) (hp : ∀ p ∈ l.map (·.1), PosIn p) (hn : l.length ≤ 20000) :
    Calls Try.prog 9 #[gmV g sa sc da dc, .slice a l.length c, .int .i64 bound] w (RetB (.bool (accB g (l.map (·.1)) bound)) w) := by
  have h := accept_any g sa da a sc dc c (l.map (·.1)) (pvL l) bound w hG (VG_fewT hv) hL.planAt hp (by rw [List.length_map]; omega)
  rw [List.length_map] at h
  exact h
section
variable {H : Type} {enc : TypeId × Value → H} {w : World} {held : Bool}
open Go.ChangeShapes Go.WideShapes Go.ChangeAt Go.Joins Go.Deep
set_option maxRecDepth 100000 in
theorem open_planp {b0 : Nat} {r : Reach} {v : Value} {d : DataW H} {p : List MemPlace} (hv : Value.okWide Try.prog w r b0 28 v) (h : DataW.Trod enc Try.prog w 0 (fun _ => true) held 28 v d p) :
    ∃ (l : List PA) (a : Option Addr) (c : Nat), v = .slice a l.length c ∧ LaP w a l ∧ InP l ∧ l.length < 9223372036854775808 ∧ ∀ p ∈ l.map (·.1), PosIn p := by
  obtain ⟨a, c, l, pv, rfl, hP, h1, _, _, h4⟩ := open_poss hv h
  obtain ⟨L, rfl, hL⟩ := hP.lap
  rw [List.length_map] at h1
  refine ⟨L, a, c, by rw [List.length_map], hL, fun x hx _ => ?_, h1, fun p hp => (h4 p hp).1⟩
  obtain ⟨h5, _⟩ := h4 x.1 (List.mem_map.2 ⟨x, hx, rfl⟩)
  exact ⟨h5.t, h5.b, h5.s⟩
end
/-! ### the sizes -/
def RetFt (g : Gm) (w : World) (e : Ending) (w' : World) : Prop := Below w.heap.size w w' ∧ (e = .returned (.bool false) ∨ e = .returned (.bool true) ∧ VG g ∧ SmG g ∧ g.deps.length ≤ 5 ∧ g.starts.length ≤ 3)
set_option maxRecDepth 100000 in
set_option maxHeartbeats 4000000 in
theorem fewT_any (g : Gm) (sa da : Option Addr) (sc dc : Nat) (w : World) (hG : GmAt w g sa da) (hF : GmBig g) : Calls Try.prog 6 #[gmV g sa sc da dc] w (RetFt g w) := by
  have HR := Lib.hid (fun (wy : World) (hb : Below w.heap.size w wy) => rvalidG_any g sa da sc dc wy (hG.later hb) hF)
  have HG := Lib.hid hG
  clear hG hF
  go_enter Try.func6, Try.ntmps6
  go_wp2_with fail
  refine calls_named ?_
  intro wx hwx
  obtain ⟨hbx, -, hx, -⟩ := alloc1 w [.slice sa g.starts.length sc, .slice da g.deps.length dc, .int .i64 g.budget] 25 wx hwx
  have HX := Lib.hid hx
  have HBX := Lib.hid hbx
  clear hwx hx
  refine Calls.mono (HR.out wx hbx) ?_
  clear hbx
  rintro e w1 ⟨rfl, hb1⟩
  have hw1 := HBX.out.trans (hb1.mono HBX.out.size)
  have HW1 := Lib.hid hw1
  have hx1 := HX.out.later hb1
  have c0 := (hx1 0 _ rfl).1
  have c1 := (hx1 1 _ rfl).1
  have c2 := (hx1 2 _ rfl).1
  have HX1 := Lib.hid hx1
  clear hb1 hw1 hx1
  by_cases hv : VG g
  · have e := vgB_true hv
    rw [e]
    have HSM := Lib.hid (small_any g sa da sc dc w1 (HG.out.later HW1.out) hv)
    have HV := Lib.hid hv
    clear e hv
    go_wp2_with fail
    refine Calls.mono HSM.out ?_
    rintro e w2 ⟨rfl, hb2⟩
    have hx2 := HX1.out.later hb2
    have d0 := (hx2 0 _ rfl).1
    have d1 := (hx2 1 _ rfl).1
    have HW2 := Lib.hid (HW1.out.trans (hb2.mono HW1.out.size))
    clear c0 c1 c2 hb2 hx2
    cases hs : smB g
    · clear hs
      go_wp2_with fail
      go_ret
      exact ⟨HW2.out, .inl rfl⟩
    · have HS := Lib.hid (smB_iff.1 hs)
      clear hs
      by_cases h6 : g.deps.length ≤ 5
      · have i6 : decide ((g.deps.length : Int) ≤ 5) = true := by simp; omega
        by_cases h4 : g.starts.length ≤ 3
        · have i4 : decide ((g.starts.length : Int) ≤ 3) = true := by simp; omega
          have HE := Lib.hid (And.intro h6 h4)
          clear h6 h4
          go_wp2_with fail
          go_ret
          exact ⟨HW2.out, .inr ⟨rfl, HV.out, HS.out, HE.out.1, HE.out.2⟩⟩
        · have i4 : decide ((g.starts.length : Int) ≤ 3) = false := by simp; omega
          clear h6 h4
          go_wp2_with fail
          go_ret
          exact ⟨HW2.out, .inl rfl⟩
      · have i6 : decide ((g.deps.length : Int) ≤ 5) = false := by simp; omega
        clear h6
        go_wp2_with fail
        go_ret
        exact ⟨HW2.out, .inl rfl⟩
  · have e := vgB_false hv
    rw [e]
    clear e hv
    go_wp2_with fail
    go_ret
    exact ⟨HW1.out, .inl rfl⟩
end Go.Proofs.Ytgccankekflchaa
namespace Go.Proofs.Ytgccankekflchaa
open Go.RowKit Go.Maps

set_option maxRecDepth 100000 in
set_option maxHeartbeats 4000000 in
theorem gameT_any (b : Int) (w : World) : Calls Try.prog 12 #[.int .i64 b] w fun e w' => ∃ sa da, e = .returned (gmV (exG b) sa 2 da 3) ∧ GmAt w' (exG b) sa da ∧ Below w.heap.size w w' := by
  go_enter Try.func12, Try.ntmps12
  go_wp2_with fail
  suffices hfin : ∀ w', w' = ((((w.alloc (.cells #[.slice (some ⟨w.heap.size + 1 + 1, 0, none⟩) 2 2, .slice (some ⟨w.heap.size + 1 + 1 + 1, 0, none⟩) 3 3, .int .i64 b] 25)).alloc (.cells #[.int .i64 0, .int .i64 1] 3)).alloc (.cells #[.int .i64 1, .int .i64 2] 3)).alloc (.cells #[.slice (some ⟨w.heap.size + 1, 0, none⟩) 2 2, .slice (some ⟨w.heap.size + 1, 0, none⟩) 2 2, .slice (some ⟨w.heap.size + 1, 0, none⟩) 2 2] 22)) →
      BoxAt w' w.heap.size [.slice (some ⟨w.heap.size + 1 + 1, 0, none⟩) 2 2, .slice (some ⟨w.heap.size + 1 + 1 + 1, 0, none⟩) 3 3, .int .i64 b] ∧ GmAt w' (exG b) (some ⟨w.heap.size + 1 + 1, 0, none⟩) (some ⟨w.heap.size + 1 + 1 + 1, 0, none⟩) ∧ Below w.heap.size w w' by
    obtain ⟨h1, h2, h3⟩ := hfin _ rfl
    exact bodyPost_ret (results_cell (p := ⟨w.heap.size, 0, none⟩) rfl rfl (run_loadVar_mid _ w.heap.size 0 25 [.slice (some ⟨w.heap.size + 1 + 1, 0, none⟩) 2 2, .slice (some ⟨w.heap.size + 1 + 1 + 1, 0, none⟩) 3 3, .int .i64 b] _ (box_range h1) Try.underlying25 rfl (by kernel_rfl))) rfl ⟨_, _, rfl, h2, h3⟩
  intro w' hw'
  obtain ⟨x, hx⟩ : ∃ x, x = (w.alloc (.cells #[.slice (some ⟨w.heap.size + 1 + 1, 0, none⟩) 2 2, .slice (some ⟨w.heap.size + 1 + 1 + 1, 0, none⟩) 3 3, .int .i64 b] 25)).alloc (.cells #[.int .i64 0, .int .i64 1] 3) := ⟨_, rfl⟩
  rw [← hx] at hw'
  obtain ⟨p1, p2, ⟨p3, _⟩, p4, _⟩ := alloc2t w [.slice (some ⟨w.heap.size + 1 + 1, 0, none⟩) 2 2, .slice (some ⟨w.heap.size + 1 + 1 + 1, 0, none⟩) 3 3, .int .i64 b] [.int .i64 0, .int .i64 1] _ _ x hx
  obtain ⟨q1, q2, ⟨q3, _⟩, q4, _⟩ := alloc2t x [.int .i64 1, .int .i64 2] [.slice (some ⟨w.heap.size + 1, 0, none⟩) 2 2, .slice (some ⟨w.heap.size + 1, 0, none⟩) 2 2, .slice (some ⟨w.heap.size + 1, 0, none⟩) 2 2] _ _ w' hw'
  rw [p2] at q2 q3 q4
  have hrow : Ints w' (some ⟨w.heap.size + 1, 0, none⟩) [0, 1] := fun j hj => by
    have h2 := p4.later q1
    have : j = 0 ∨ j = 1 := by simp at hj; omega
    rcases this with rfl | rfl
    · exact ⟨_, 0, rfl, (h2 0 _ rfl).1⟩
    · exact ⟨_, 0, rfl, (h2 1 _ rfl).1⟩
  refine ⟨p3.later q1, ⟨fun j hj => ?_, fun j hj => ?_⟩, p1.trans (q1.mono (by omega))⟩
  · have : j = 0 ∨ j = 1 := by have hj' : j < 2 := hj; omega
    rcases this with rfl | rfl
    · exact ⟨_, 0, rfl, (q3 0 _ rfl).1⟩
    · exact ⟨_, 0, rfl, (q3 1 _ rfl).1⟩
  · have : j = 0 ∨ j = 1 ∨ j = 2 := by have hj' : j < 3 := hj; omega
    rcases this with rfl | rfl | rfl
    · exact ⟨_, 0, _, 2, rfl, (q4 0 _ rfl).1, hrow⟩
    · exact ⟨_, 0, _, 2, rfl, (q4 1 _ rfl).1, hrow⟩
    · exact ⟨_, 0, _, 2, rfl, (q4 2 _ rfl).1, hrow⟩
theorem exG_memT : VG (exG 1) ∧ AllowG (exG 1) [1, -1, -1] := ⟨exG_vg (.inr rfl), (allow_iff (exG_vg (.inr rfl))).2 (of_decide_eq_true (by kernel_rfl))⟩
theorem exG_playT : playB (exG 1) [1, -1, -1] (beginS (exG 1)) 0 = 2 := by kernel_rfl
theorem three_at {w : World} {b : Nat} {x y z : Int} (h : BoxAt w b [.int .i64 x, .int .i64 y, .int .i64 z]) : Ints w (some ⟨b, 0, none⟩) [x, y, z] := fun j hj => by
  have : j = 0 ∨ j = 1 ∨ j = 2 := by simp at hj; omega
  rcases this with rfl | rfl | rfl
  · exact ⟨_, 0, rfl, (h 0 _ rfl).1⟩
  · exact ⟨_, 0, rfl, (h 1 _ rfl).1⟩
  · exact ⟨_, 0, rfl, (h 2 _ rfl).1⟩
set_option maxRecDepth 100000 in
set_option maxHeartbeats 8000000 in
theorem headT_any (w : World) : Calls Try.prog 5 #[] w (RetB (.bool true) w) := by
  have hvg : VG (exG 1) := exG_vg (.inr rfl)
  have hP := Lib.hid (fun (wy : World) (sa da : Option Addr) (h : GmAt wy (exG 1) sa da) => plan_any (exG 1) sa da 2 3 wy h exG_few)
  have HVG := Lib.hid hvg
  clear hvg
  go_enter Try.func5, Try.ntmps5
  go_wp2_with fail
  refine Calls.mono (gameT_any 1 w) ?_
  rintro e w1 ⟨sa, da, rfl, hg1, hb1⟩
  have HG1 := Lib.hid hg1
  have HB1 := Lib.hid hb1
  clear hg1 hb1
  go_upto_region 2 with fail
  refine wp_named ?_
  intro w2 hw2
  obtain ⟨hb2, -, hx2, -⟩ := alloc1 w1 [.slice sa 2 2, .slice da 3 3, .int .i64 1] 25 w2 hw2
  have HB2 := Lib.hid (HB1.out.trans (hb2.mono HB1.out.size))
  have HG2 := Lib.hid (HG1.out.later hb2)
  have HX2 := Lib.hid hx2
  have c0 := (hx2 0 _ rfl).1
  have c1 := (hx2 1 _ rfl).1
  have c2 := (hx2 2 _ rfl).1
  clear hw2 hb2 hx2
  go_wp2_with fail
  refine Calls.mono (hP.out w2 sa da HG2.out) ?_
  rintro e w3 ⟨hb3, ⟨h1, _⟩ | ⟨_, h2, _⟩ | ⟨-, -, a, c, l, rfl, hpo, hat, hps, -, -, -⟩⟩
  · exact absurd (exG_vg (.inr rfl)) h1
  · exact absurd (exG_sm (.inr rfl)) h2
  have hpg := PlanG.of HVG.out (by show 3 ≤ 5; decide) hpo
  have hlost := plan_lost HVG.out hpg.r ((allow_iff HVG.out).1 exG_memT.2)
  rw [exG_playT] at hlost
  have ha2 := accB_true (plan_acc HVG.out hpg.r)
  rw [exG_v1] at ha2
  have ha1 := accB_false (plan_nacc HVG.out hpg.r (b := 1) (by rw [exG_v1]; decide))
  have HG3 := Lib.hid (HG2.out.later hb3)
  have HLA := Lib.hid (show LaP w3 a l from ⟨hat, hps⟩)
  have hac := fun (b : Int) (wy : World) (hy : Below w3.heap.size w3 wy) => acceptL (exG 1) sa da 2 3 l a c b wy (HG3.out.later hy) HVG.out (HLA.out.later hy) hpg.p hpg.n
  have hlo := fun (fa : Option Addr) (fc : Nat) (wy : World) (hy : Below w3.heap.size w3 wy) (hF : Ints wy fa [1, -1, -1]) => lost_any (exG 1) sa da 2 3 l a c [1, -1, -1] fa fc wy (HG3.out.later hy) exG_few (HLA.out.later hy) hpg.i (by have := hpg.n; omega) hF (by decide)
  simp only [lostV_eq, hlost] at hlo
  have hac2 := hac 2
  have hac1 := hac 1
  simp only [ha2] at hac2
  simp only [ha1] at hac1
  obtain ⟨ll, hll⟩ : ∃ n, n = l.length := ⟨_, rfl⟩
  simp only [← hll] at hlo hac1 hac2
  rw [← hll]
  have HAC1 := Lib.hid hac1
  have HAC2 := Lib.hid hac2
  have HLO := Lib.hid hlo
  have HB3 := Lib.hid (HB2.out.trans (hb3.mono HB2.out.size))
  have HX3 := Lib.hid (HX2.out.later hb3)
  clear hpg hlost ha2 ha1 hac hlo hac2 hac1 hll hpo hat hps hb3 c0 c1 c2
  have c0 := (HX3.out 0 _ rfl).1
  have c1 := (HX3.out 1 _ rfl).1
  have c2 := (HX3.out 2 _ rfl).1
  go_wp2_with fail
  refine calls_named ?_
  intro v4 hv4
  obtain ⟨hq4, -, hx4, -⟩ := alloc1 w3 [.int .i64 1, .int .i64 (-1), .int .i64 (-1)] 3 v4 hv4
  have HQ4 := Lib.hid hq4
  have hc := HLO.out (some ⟨w3.heap.size, 0, none⟩) 3 v4 hq4 (three_at hx4)
  have HC := Lib.hid hc
  clear hv4 hq4 hx4 hc
  refine Calls.mono HC.out ?_
  rintro e w5 ⟨rfl, hb5⟩
  have HB5 := Lib.hid (HQ4.out.trans (hb5.mono HQ4.out.size))
  have hx5 := HX3.out.later HB5.out
  have HX5 := Lib.hid hx5
  clear c0 c1 c2 hb5
  have c0 := (hx5 0 _ rfl).1
  have c1 := (hx5 1 _ rfl).1
  have c2 := (hx5 2 _ rfl).1
  clear hx5
  go_wp2_with fail
  refine Calls.mono (HAC2.out w5 HB5.out) ?_
  rintro e w6 ⟨rfl, hb6⟩
  have HB6 := Lib.hid (HB5.out.trans (hb6.mono HB5.out.size))
  have hx6 := HX5.out.later hb6
  clear c0 c1 c2 hb6
  have c0 := (hx6 0 _ rfl).1
  have c1 := (hx6 1 _ rfl).1
  have c2 := (hx6 2 _ rfl).1
  clear hx6
  go_wp2_with fail
  refine Calls.mono (HAC1.out w6 HB6.out) ?_
  rintro e w7 ⟨rfl, hb7⟩
  have HB7 := Lib.hid (HB3.out.trans ((HB6.out.trans (hb7.mono HB6.out.size)).mono HB3.out.size))
  clear hb7
  go_wp2_with fail
  go_ret
  exact retB rfl HB7.out
end Go.Proofs.Ytgccankekflchaa
