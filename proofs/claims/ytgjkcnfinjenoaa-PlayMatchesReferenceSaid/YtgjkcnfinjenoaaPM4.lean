/- Package play: what the laws say in plain terms; the small walks that they share; the chapter's examples. -/
import Derived.Test.YtgjkcnfinjenoaaPM3
import Derived.Test.YtgjkcnfinjenoaaGamE
import Derived.Test.YtgjkcnfinjenoaaGamR
import Derived.Test.YtgjkcnfinjenoaaGamV
import Derived.Test.YtgjkcnfinjenoaaGamRa
import Derived.Deep.Cut
import Derived.Test.YtgjkcnfinjenoaaJdgOpen
import Derived.Test.YtgjkcnfinjenoaaPM2
namespace Go.Proofs.Ytgjkcnfinjenoaa
open Go.RowKit Go.Maps

def runL {α : Type} (f : α → Except Int Int) : List α → List (α × Int) × Option Int
  | [] => ([], none)
  | a :: xa => match f a with
    | .error e => ([], some e)
    | .ok b => ((a, b) :: (runL f xa).1, (runL f xa).2)
theorem runL_cons {α : Type} (f : α → Except Int Int) (a : α) (xa : List α) : runL f (a :: xa) = match f a with
    | .error e => ([], some e)
    | .ok b => ((a, b) :: (runL f xa).1, (runL f xa).2) := rfl
theorem runL_append {α : Type} (f : α → Except Int Int) : ∀ (xa xb : List α), runL f (xa ++ xb) = match (runL f xa).2 with
    | some e => ((runL f xa).1, some e)
    | none => ((runL f xa).1 ++ (runL f xb).1, (runL f xb).2)
  | [], xb => rfl
  | a :: xa, xb => by
    rw [List.cons_append, runL_cons, runL_cons]
    cases h : f a with
    | error e => rfl
    | ok b =>
      simp only
      rw [runL_append f xa xb]
      cases h2 : (runL f xa).2 <;> rfl
theorem runL_map {α β : Type} (f : β → Except Int Int) (h : α → β) : ∀ (xa : List α), runL f (xa.map h) = ((runL (fun a => f (h a)) xa).1.map (fun x => (h x.1, x.2)), (runL (fun a => f (h a)) xa).2)
  | [] => rfl
  | a :: xa => by
    rw [List.map_cons, runL_cons, runL_cons]
    cases hf : f (h a) with
    | error e => rfl
    | ok b =>
      simp only
      rw [runL_map f h xa]
      rfl
theorem runL_congr {α : Type} {f g : α → Except Int Int} (h : ∀ a, f a = g a) (xa : List α) : runL f xa = runL g xa := by
  rw [show f = g from funext h]
def okV (r : Except Int Int) : Int := match r with | .ok n => n | .error _ => 0
theorem runL_ok {α : Type} {f : α → Except Int Int} : ∀ {xa : List α}, (runL f xa).2 = none → (∀ a ∈ xa, f a = .ok (okV (f a))) ∧ (runL f xa).1 = xa.map (fun a => (a, okV (f a)))
  | [], _ => ⟨fun _ h => (by cases h), rfl⟩
  | a :: xa, h => by
    rw [runL_cons] at h ⊢
    cases hf : f a with
    | error e => rw [hf] at h; cases h
    | ok b =>
      rw [hf] at h
      obtain ⟨h1, h2⟩ := runL_ok (xa := xa) h
      refine ⟨fun x hx => ?_, by simp only [List.map_cons, hf, h2]; rfl⟩
      rcases List.mem_cons.1 hx with rfl | hx
      · rw [hf]; rfl
      · exact h1 x hx
theorem runL_all {α : Type} {f : α → Except Int Int} : ∀ {xa : List α}, (∀ a ∈ xa, ∃ b, f a = .ok b) → (runL f xa).2 = none
  | [], _ => rfl
  | a :: xa, h => by
    obtain ⟨b, hb⟩ := h a (by simp)
    rw [runL_cons, hb]
    exact runL_all fun x hx => h x (by simp [hx])
theorem runL_err {α : Type} {f : α → Except Int Int} {e : Int} : ∀ {xa : List α}, (runL f xa).2 = some e → ∃ pre a post, xa = pre ++ a :: post ∧ f a = .error e ∧ ∀ x ∈ pre, ∃ b, f x = .ok b
  | [], h => by cases h
  | a :: xa, h => by
    rw [runL_cons] at h
    cases hf : f a with
    | error e' =>
      rw [hf] at h
      cases h
      exact ⟨[], a, xa, rfl, hf, fun _ h => (by cases h)⟩
    | ok b =>
      rw [hf] at h
      obtain ⟨pre, x, post, e1, e2, e3⟩ := runL_err (xa := xa) h
      refine ⟨a :: pre, x, post, by rw [e1]; rfl, e2, fun y hy => ?_⟩
      rcases List.mem_cons.1 hy with rfl | hy
      · exact ⟨b, hf⟩
      · exact e3 y hy
/-- all failures that the rest of the turns allows, in order -/
def allF (n : Nat) : Nat → St → List (List Int)
  | 0, _ => [[]]
  | k + 1, s => ((vsG n).filter (mvOk s)).flatMap fun v => (allF n k (hitF s v)).map (v :: ·)
theorem allF_succ (n k : Nat) (s : St) : allF n (k + 1) s = ((vsG n).filter (mvOk s)).flatMap fun v => (allF n k (hitF s v)).map (v :: ·) := rfl
theorem mvOk_congr {s t : St} (h1 : s.budget = t.budget) (h2 : s.failed = t.failed) : mvOk s = mvOk t := by
  funext v
  unfold mvOk
  rw [h1, h2]
theorem hitF_congr {s t : St} (h1 : s.budget = t.budget) (h2 : s.failed = t.failed) (v : Int) : (hitF s v).budget = (hitF t v).budget ∧ (hitF s v).failed = (hitF t v).failed := by
  unfold hitF
  split
  · unfold hit
    exact ⟨by simp [h1], by simp [h2]⟩
  · exact ⟨h1, h2⟩
theorem allF_congr (n : Nat) : ∀ (k : Nat) {s t : St}, s.budget = t.budget → s.failed = t.failed → allF n k s = allF n k t
  | 0, _, _, _, _ => rfl
  | k + 1, s, t, h1, h2 => by
    rw [allF_succ, allF_succ, mvOk_congr h1 h2]
    have : (fun v => (allF n k (hitF s v)).map (v :: ·)) = (fun v => (allF n k (hitF t v)).map (v :: ·)) := by
      funext v
      obtain ⟨a, b⟩ := hitF_congr h1 h2 v
      rw [allF_congr n k a b]
    rw [this]
theorem mem_vsG {n : Nat} {v : Int} : v ∈ vsG n ↔ -1 ≤ v ∧ v < n := by
  unfold vsG
  rw [List.mem_map]
  constructor
  · rintro ⟨i, hi, rfl⟩
    have := List.mem_range.1 hi
    omega
  · intro h
    exact ⟨(v + 1).toNat, List.mem_range.2 (by omega), by omega⟩
theorem mem_allF {n k : Nat} {s : St} {F : List Int} : F ∈ allF n (k + 1) s ↔ ∃ v G, F = v :: G ∧ (-1 ≤ v ∧ v < n) ∧ mvOk s v = true ∧ G ∈ allF n k (hitF s v) := by
  rw [allF_succ, List.mem_flatMap]
  constructor
  · rintro ⟨v, hv, hF⟩
    obtain ⟨G, hG, rfl⟩ := List.mem_map.1 hF
    obtain ⟨h1, h2⟩ := List.mem_filter.1 hv
    exact ⟨v, G, rfl, mem_vsG.1 h1, h2, hG⟩
  · rintro ⟨v, G, rfl, h1, h2, hG⟩
    exact ⟨v, List.mem_filter.2 ⟨mem_vsG.2 h1, h2⟩, List.mem_map.2 ⟨G, hG, rfl⟩⟩
theorem mvOk_neg (s : St) : mvOk s (-1) = true := rfl
theorem hitF_neg (s : St) : hitF s (-1) = s := rfl
theorem allF_none (n : Nat) : ∀ (k : Nat) (s : St), List.replicate k (-1) ∈ allF n k s
  | 0, _ => by simp [allF]
  | k + 1, s => mem_allF.2 ⟨-1, List.replicate k (-1), rfl, ⟨by omega, by omega⟩, rfl, allF_none n k _⟩
theorem allF_cons (n k : Nat) (s : St) : ∃ G Gs, allF n k s = G :: Gs := by
  have h := allF_none n k s
  cases e : allF n k s with
  | nil => rw [e] at h; cases h
  | cons G Gs => exact ⟨G, Gs, rfl⟩
theorem allF_len {n : Nat} : ∀ {k : Nat} {s : St} {F : List Int}, F ∈ allF n k s → F.length = k
  | 0, s, F, h => by simp [allF] at h; simp [h]
  | k + 1, s, F, h => by
    obtain ⟨v, G, rfl, _, _, hG⟩ := mem_allF.1 h
    rw [List.length_cons, allF_len hG]
/-! ### the order -/
def bef : List Int → List Int → Bool
  | a :: xa, b :: xb => decide (a < b) || (decide (a = b) && bef xa xb)
  | _, _ => false
theorem bef_irr : ∀ F : List Int, bef F F = false
  | [] => rfl
  | a :: xa => by
    show (decide (a < a) || (decide (a = a) && bef xa xa)) = false
    rw [bef_irr xa, decide_eq_false (Int.lt_irrefl a), Bool.and_false]
    rfl
theorem bef_asym : ∀ {F G : List Int}, bef F G = true → bef G F = false
  | [], [], h => by cases h
  | [], _ :: _, h => by cases h
  | _ :: _, [], h => by cases h
  | a :: xa, b :: xb, h => by
    have h' : (decide (a < b) || (decide (a = b) && bef xa xb)) = true := h
    show (decide (b < a) || (decide (b = a) && bef xb xa)) = false
    rcases Bool.or_eq_true_iff.1 h' with h1 | h1
    · have := of_decide_eq_true h1
      rw [decide_eq_false (by omega), decide_eq_false (by omega)]
      rfl
    · obtain ⟨h2, h3⟩ := Bool.and_eq_true_iff.1 h1
      have := of_decide_eq_true h2
      rw [decide_eq_false (by omega), bef_asym h3, Bool.and_false]
      rfl
theorem vsG_pw (n : Nat) : (vsG n).Pairwise (· < ·) := by
  unfold vsG
  rw [List.pairwise_map]
  exact List.pairwise_lt_range.imp fun {a b} h => by omega
theorem allF_pw (n : Nat) : ∀ (k : Nat) (s : St), (allF n k s).Pairwise (fun F G => bef F G = true)
  | 0, _ => by simp [allF]
  | k + 1, s => by
    rw [allF_succ, List.pairwise_flatMap]
    refine ⟨fun v _ => ?_, ((vsG_pw n).filter _).imp fun {a b} hab x hx y hy => ?_⟩
    · rw [List.pairwise_map]
      refine (allF_pw n k (hitF s v)).imp fun {F G} h => ?_
      show (decide (v < v) || (decide (v = v) && bef F G)) = true
      rw [h, decide_eq_true rfl, Bool.and_true, Bool.or_true]
    · obtain ⟨F, _, rfl⟩ := List.mem_map.1 hx
      obtain ⟨G, _, rfl⟩ := List.mem_map.1 hy
      show (decide (a < b) || _) = true
      rw [decide_eq_true hab]
      rfl
/-! ### the games -/
theorem turn_st {g : Gm} {plan : List Pos} {s : St} {v : Int} {y : St × Int} (h : turnR g plan s v = .ok y) : y.1.budget = (hitF s v).budget ∧ y.1.failed = (hitF s v).failed ∧ y.1.starts.length = s.starts.length ∧ (y.2 = 0 ∨ y.2 = 1) := by
  have hl : (hitF s v).starts.length = s.starts.length := by unfold hitF; split <;> rfl
  have ha : ∀ c, (afterS (hitF s v) c).starts.length = s.starts.length := fun c => by
    rw [← hl]
    unfold afterS
    simp only
    split
    · rw [List.length_set]
    · rfl
  unfold turnR at h
  cases hp : posAt plan (hitF s v) with
  | none => rw [hp] at h; cases h
  | some p =>
    rw [hp] at h
    simp only at h
    split at h
    · cases h; exact ⟨rfl, rfl, ha _, .inr rfl⟩
    · split at h
      · cases h; exact ⟨rfl, rfl, ha _, .inl rfl⟩
      · cases h
theorem lostL_cons (g : Gm) (plan : List Pos) (f : Int) (F : List Int) (s : St) (n : Int) : lostL g plan (f :: F) s n = match turnR g plan s f with
    | .error e => .error e
    | .ok x => lostL g plan F x.1 (n + x.2) := rfl
theorem games_run (g : Gm) (plan : List Pos) (n : Nat) : ∀ (k : Nat) (s : St) (fl : List Int) (lo : Int), s.starts.length = n →
    gamesL g plan k s fl lo = ((runL (fun G => lostL g plan G s lo) (allF n k s)).1.map (fun x => (fl ++ x.1, x.2)), (runL (fun G => lostL g plan G s lo) (allF n k s)).2)
  | 0, s, fl, lo, _ => by simp [gamesL, allF, runL, lostL]
  | k + 1, s, fl, lo, hs => by
    rw [gamesL_succ, hs, allF_succ]
    have hv : ∀ v, fnG g plan k s fl lo v = ((runL (fun G => lostL g plan G s lo) ((allF n k (hitF s v)).map (v :: ·))).1.map (fun x => (fl ++ x.1, x.2)), (runL (fun G => lostL g plan G s lo) ((allF n k (hitF s v)).map (v :: ·))).2) := by
      intro v
      rw [runL_map]
      unfold fnG
      cases ht : turnR g plan s v with
      | error e =>
        obtain ⟨G, Gs, hG⟩ := allF_cons n k (hitF s v)
        have hc : lostL g plan (v :: G) s lo = .error e := by rw [lostL_cons, ht]
        rw [hG, runL_cons]
        simp only [hc]
        rfl
      | ok y =>
        obtain ⟨e1, e2, e3, _⟩ := turn_st ht
        have hc : ∀ G, lostL g plan (v :: G) s lo = lostL g plan G y.1 (lo + y.2) := fun G => by rw [lostL_cons, ht]
        simp only
        rw [games_run g plan n k y.1 (fl ++ [v]) (lo + y.2) (e3.trans hs), allF_congr n k e1 e2, runL_congr hc]
        simp [List.map_map, Function.comp_def]
    have key : ∀ l : List Int, seqG (fnG g plan k s fl lo) l = ((runL (fun G => lostL g plan G s lo) (l.flatMap fun v => (allF n k (hitF s v)).map (v :: ·))).1.map (fun x => (fl ++ x.1, x.2)), (runL (fun G => lostL g plan G s lo) (l.flatMap fun v => (allF n k (hitF s v)).map (v :: ·))).2) := by
      intro l
      induction l with
      | nil => rfl
      | cons v l ih =>
        rw [seqG_cons, List.flatMap_cons, runL_append, hv v, ih]
        cases h : (runL (fun G => lostL g plan G s lo) ((allF n k (hitF s v)).map (v :: ·))).2 with
        | none => simp
        | some e => simp
    exact key _
/-- all failures that a game allows -/
abbrev allG (g : Gm) : List (List Int) := allF g.starts.length g.deps.length (beginS g)
theorem gamesG_run (g : Gm) (plan : List Pos) : gamesG g plan = runL (fun G => lostL g plan G (beginS g) 0) (allG g) := by
  unfold gamesG
  rw [games_run g plan g.starts.length g.deps.length (beginS g) [] 0 rfl]
  simp
theorem lostL_in {g : Gm} {plan : List Pos} : ∀ {F : List Int} {s : St} {n x : Int}, lostL g plan F s n = .ok x → n ≤ x ∧ x ≤ n + F.length
  | [], s, n, x, h => by
    have h' : (Except.ok n : Except Int Int) = .ok x := h
    cases h'
    simp
  | f :: F, s, n, x, h => by
    rw [lostL_cons] at h
    cases ht : turnR g plan s f with
    | error e => rw [ht] at h; cases h
    | ok y =>
      rw [ht] at h
      obtain ⟨h1, h2⟩ := lostL_in h
      obtain ⟨_, _, _, h3⟩ := turn_st ht
      rw [List.length_cons]
      omega
theorem lostL_err {g : Gm} {plan : List Pos} : ∀ {F : List Int} {s : St} {n e : Int}, lostL g plan F s n = .error e → e = 2 ∨ e = 5
  | [], s, n, x, h => by cases h
  | f :: F, s, n, x, h => by
    rw [lostL_cons] at h
    cases ht : turnR g plan s f with
    | error e => rw [ht] at h; cases h; exact turnR_err ht
    | ok y => rw [ht] at h; exact lostL_err h
/-! ### the first of the greatest -/
theorem worst_fold : ∀ (xs : List (List Int × Int)) (m : List Int × Int), (xs.foldl wStep m = m ∧ ∀ y ∈ xs, y.2 ≤ m.2) ∨
    ∃ pre x post, xs = pre ++ x :: post ∧ xs.foldl wStep m = x ∧ (∀ y ∈ pre, y.2 < x.2) ∧ (∀ y ∈ post, y.2 ≤ x.2) ∧ m.2 < x.2
  | [], m => .inl ⟨rfl, fun _ h => (by cases h)⟩
  | x0 :: xs, m => by
    rw [List.foldl_cons]
    by_cases h : m.2 < x0.2
    · rw [show wStep m x0 = x0 from if_pos h]
      rcases worst_fold xs x0 with ⟨h1, h2⟩ | ⟨pre, x, post, h1, h2, h3, h4, h5⟩
      · exact .inr ⟨[], x0, xs, rfl, h1, fun _ h => (by cases h), h2, h⟩
      · refine .inr ⟨x0 :: pre, x, post, by rw [h1]; rfl, h2, fun y hy => ?_, h4, by omega⟩
        rcases List.mem_cons.1 hy with rfl | hy
        · exact h5
        · exact h3 y hy
    · rw [show wStep m x0 = m from if_neg h]
      rcases worst_fold xs m with ⟨h1, h2⟩ | ⟨pre, x, post, h1, h2, h3, h4, h5⟩
      · refine .inl ⟨h1, fun y hy => ?_⟩
        rcases List.mem_cons.1 hy with rfl | hy
        · omega
        · exact h2 y hy
      · refine .inr ⟨x0 :: pre, x, post, by rw [h1]; rfl, h2, fun y hy => ?_, h4, h5⟩
        rcases List.mem_cons.1 hy with rfl | hy
        · omega
        · exact h3 y hy
/-- what Worst answers where the plan never gets stuck -/
structure WorstOk (g : Gm) (plan : List Pos) (W : List Int) (m : Int) : Prop where
  mem : W ∈ allG g
  val : lostL g plan W (beginS g) 0 = .ok m
  all : ∀ F ∈ allG g, ∃ x, lostL g plan F (beginS g) 0 = .ok x ∧ 0 ≤ x ∧ x ≤ m ∧ (x < m ∨ bef F W = false)
theorem worst_okG {g : Gm} {plan : List Pos} (h : (gamesG g plan).2 = none) : WorstOk g plan (worstF (gamesG g plan).1).1 (worstF (gamesG g plan).1).2 := by
  rw [gamesG_run] at h ⊢
  obtain ⟨h1, h2⟩ := runL_ok h
  rw [h2]
  obtain ⟨G, Gs, hG⟩ : ∃ G Gs, allG g = G :: Gs := allF_cons g.starts.length g.deps.length (beginS g)
  have hpos : ∀ a ∈ allG g, 0 ≤ okV (lostL g plan a (beginS g) 0) := fun a ha => (lostL_in (h1 a ha)).1
  have hmem : ∀ y ∈ (allG g).map (fun a => (a, okV (lostL g plan a (beginS g) 0))), y.1 ∈ allG g ∧ y.2 = okV (lostL g plan y.1 (beginS g) 0) := fun y hy => by
    obtain ⟨a, ha, rfl⟩ := List.mem_map.1 hy
    exact ⟨ha, rfl⟩
  unfold worstF
  rcases worst_fold ((allG g).map (fun a => (a, okV (lostL g plan a (beginS g) 0)))) ([], -1) with ⟨e1, e2⟩ | ⟨pre, x, post, e1, e2, e3, e4, e5⟩
  · have h3 := e2 (G, okV (lostL g plan G (beginS g) 0)) (List.mem_map.2 ⟨G, by rw [hG]; simp, rfl⟩)
    have h4 := hpos G (by rw [hG]; simp)
    simp only at h3
    omega
  · rw [e2]
    have hx := hmem x (by rw [e1]; simp)
    refine ⟨hx.1, by rw [hx.2]; exact h1 _ hx.1, fun F hF => ⟨_, h1 F hF, hpos F hF, ?_⟩⟩
    have hFm : (F, okV (lostL g plan F (beginS g) 0)) ∈ pre ++ x :: post := by rw [← e1]; exact List.mem_map.2 ⟨F, hF, rfl⟩
    have hpw : (pre ++ x :: post).Pairwise (fun a b => bef a.1 b.1 = true) := by
      rw [← e1, List.pairwise_map]
      exact allF_pw _ _ _
    rcases List.mem_append.1 hFm with h5 | h5
    · have := e3 _ h5
      simp only at this
      exact ⟨by omega, .inl this⟩
    · rcases List.mem_cons.1 h5 with h6 | h6
      · rw [← h6]
        exact ⟨Int.le_refl _, .inr (bef_irr _)⟩
      · have h7 := e4 _ h6
        simp only at h7
        have h8 := (List.pairwise_cons.1 (List.pairwise_append.1 hpw).2.1).1 _ h6
        exact ⟨h7, .inr (bef_asym h8)⟩
/-! ### what is allowed -/
theorem fold_allF {n : Nat} (hn : n ≤ 6) : ∀ (F : List Int) (s : St) (fb : List Bool) (c : Int), fb.length = 6 → s.failed.length = n → 0 ≤ s.budget → (∀ v, v < n → bg fb v = bg s.failed v) →
    ((∃ y, F.foldl (failStep n) (some (fb, c)) = some y ∧ y.2 ≤ c + s.budget) ↔ F ∈ allF n F.length s)
  | [], s, fb, c, _, _, hb, _ => by
    constructor
    · intro _; simp [allF]
    · intro _; exact ⟨_, rfl, by simp; omega⟩
  | f :: F, s, fb, c, hfl, hsl, hb, hag => by
    rw [List.length_cons, mem_allF, List.foldl_cons]
    by_cases hbad : f < -1 ∨ (n : Int) ≤ f ∨ (0 ≤ f ∧ bg fb f.toNat = true)
    · rw [show failStep n (some (fb, c)) f = none from if_pos hbad, failO_none]
      constructor
      · rintro ⟨y, hy, _⟩
        cases hy
      · rintro ⟨v, G, e, hv, hok, _⟩
        cases e
        exfalso
        rcases hbad with h | h | ⟨h, h2⟩
        · omega
        · omega
        · rw [hag f.toNat (by omega)] at h2
          unfold mvOk at hok
          rw [decide_eq_false (by omega), h2] at hok
          simp at hok
    · have hr : -1 ≤ f ∧ f < n := by omega
      by_cases h0 : 0 ≤ f
      · have hbf : bg fb f.toNat = false := by
          cases h : bg fb f.toNat
          · rfl
          · exact absurd (.inr (.inr ⟨h0, h⟩)) hbad
        rw [show failStep n (some (fb, c)) f = some (fb.set f.toNat true, c + 1) from by
          show (if _ then _ else _) = _
          rw [if_neg hbad, if_pos h0]]
        have hh : hitF s f = hit s f.toNat := if_pos h0
        have hmv : mvOk s f = !decide (s.budget = 0) := by
          unfold mvOk
          rw [decide_eq_false (by omega), ← hag f.toNat (by omega), hbf]
          simp
        by_cases hb0 : s.budget = 0
        · constructor
          · rintro ⟨y, hy, hy2⟩
            obtain ⟨h1, _⟩ := fail_cnt hy
            have h2 := cntF_nonneg F
            simp only at h1
            omega
          · rintro ⟨v, G, e, hv, hok, _⟩
            cases e
            rw [hmv, hb0] at hok
            cases hok
        · have ih := fold_allF hn F (hit s f.toNat) (fb.set f.toNat true) (c + 1) (by rw [List.length_set]; exact hfl) (by show (s.failed.set _ true).length = _; rw [List.length_set]; exact hsl) (by show 0 ≤ s.budget - 1; omega) (fun v hv => by
            show _ = bg (s.failed.set f.toNat true) v
            rw [bg_setT (by omega), bg_setT (by omega), hag v hv])
          rw [show c + 1 + (hit s f.toNat).budget = c + s.budget from by show c + 1 + (s.budget - 1) = _; omega] at ih
          rw [ih]
          constructor
          · intro h
            exact ⟨f, F, rfl, hr, by rw [hmv, decide_eq_false hb0]; rfl, by rw [hh]; exact h⟩
          · rintro ⟨v, G, e, hv, hok, hG⟩
            cases e
            rw [hh] at hG
            exact hG
      · have hf : f = -1 := by omega
        rw [show failStep n (some (fb, c)) f = some (fb, c) from by
          show (if _ then _ else _) = _
          rw [if_neg hbad, if_neg h0]]
        rw [fold_allF hn F s fb c hfl hsl hb hag]
        constructor
        · intro h
          exact ⟨f, F, rfl, hr, by rw [hf]; rfl, by rw [hf]; exact h⟩
        · rintro ⟨v, G, e, hv, hok, hG⟩
          cases e
          rw [hf] at hG
          exact hG
theorem bg_rep (n v : Nat) : bg (List.replicate n false) v = false := by
  unfold bg
  rw [List.getD_eq_getElem?_getD, List.getElem?_replicate]
  split <;> rfl
theorem allow_iff {g : Gm} (hv : VG g) {F : List Int} : AllowG g F ↔ F ∈ allG g := by
  have key := fold_allF hv.1 F (beginS g) (List.replicate 6 false) 0 (by simp) (by show (List.replicate _ false).length = _; simp) hv.2.2.1 (fun v hv' => by
    show _ = bg (List.replicate _ false) v
    have h6 := hv.1
    rw [bg_rep, bg_rep])
  constructor
  · rintro ⟨hl, x, hx, hb⟩
    have := key.1 ⟨x, hx, by show x.2 ≤ 0 + g.budget; omega⟩
    rw [hl] at this
    exact this
  · intro h
    have hl := allF_len h
    have h' : F ∈ allF g.starts.length g.deps.length (beginS g) := h
    rw [← hl] at h'
    obtain ⟨y, hy, hb⟩ := key.2 h'
    have hb' : y.2 ≤ 0 + g.budget := hb
    exact ⟨hl, y, hy, by omega⟩
end Go.Proofs.Ytgjkcnfinjenoaa
namespace Go.Proofs.Ytgjkcnfinjenoaa
open Go.RowKit Go.Maps Go.Shelf

/-- in order and of different states: strictly in order -/
theorem strict_of {l : List Pos} (hp : l.Pairwise (fun x y => ¬ cmpP y x < 0)) (hn : (l.map Pos.st).Nodup) : l.Pairwise (fun x y => cmpP x y < 0) := by
  have h2 : l.Pairwise (fun x y => x.st ≠ y.st) := List.pairwise_map.1 hn
  exact (hp.and h2).imp fun {x y} ⟨a, b⟩ => by
    have e := cmpP_tw.anti x y
    have z : cmpP x y ≠ 0 := fun h => b (cmpP_zero h)
    omega
theorem cmpI_self (a : Int) : cmpI a a = 0 := cmpI_zero.2 rfl
theorem cmpL_self : ∀ l : List Int, cmpL l l = 0
  | [] => rfl
  | a :: l => by
    unfold cmpL
    rw [if_pos (cmpI_self a)]
    exact cmpL_self l
theorem cmpP_of {p q : Pos} (h : p.st = q.st) : cmpP p q = 0 := by
  unfold Pos.st at h
  simp only [St.mk.injEq] at h
  obtain ⟨h1, h2, h3, h4⟩ := h
  unfold cmpP
  rw [h1, h2, h3, h4, cmpI_self, cmpL_self, cmpL_self, cmpI_self]
  rfl
structure FolR (g : Gm) (D R : List St) : Prop where
  nd : R.Nodup
  sub : ∀ y ∈ D, y ∈ R
  new : ∀ y ∈ R, y ∈ D ∨ (Dom g y ∧ y.turn < g.deps.length ∧ (y.turn + 1 < g.deps.length → ∀ x ∈ madeL (afterS y (BG g y).1), x ∈ R))
theorem fol_props {g : Gm} : ∀ (k : Nat) (s : St) (D : List St), Dom g s → s.turn + k = g.deps.length → D.Nodup → FolR g D (followL g k s D) ∧ (0 < k → ∀ x ∈ madeL s, x ∈ followL g k s D)
  | 0, s, D, _, _, hn => ⟨⟨hn, fun _ h => h, fun _ h => .inl h⟩, fun h => absurd h (by omega)⟩
  | k + 1, s, D, hs, hk, hn => by
    rw [followL_succ]
    have key : ∀ (l : List St) (D : List St), (∀ x ∈ l, x ∈ madeL s) → D.Nodup → FolR g D (l.foldl (folStep g k) D) ∧ ∀ x ∈ l, x ∈ l.foldl (folStep g k) D := by
      intro l
      induction l with
      | nil => intro D _ hn; exact ⟨⟨hn, fun _ h => h, fun _ h => .inl h⟩, fun _ h => (by cases h)⟩
      | cons x l ih =>
        intro D hl hn
        rw [List.foldl_cons]
        have hx := hl x (by simp)
        have hdx := hs.made hx
        have htx := made_turn hx
        have st : FolR g D (folStep g k D x) ∧ x ∈ folStep g k D x := by
          unfold folStep
          split
          · rename_i h
            exact ⟨⟨hn, fun _ h => h, fun _ h => .inl h⟩, h⟩
          · rename_i h
            have hn2 : (D ++ [x]).Nodup := by
              rw [List.nodup_append]
              exact ⟨hn, by simp, fun y hy z hz => by rw [List.mem_singleton.1 hz]; exact fun e => h (e ▸ hy)⟩
            obtain ⟨⟨a, b, c⟩, d⟩ := fol_props k (afterS x (BG g x).1) (D ++ [x]) (hdx.next (by omega)) (by show x.turn + 1 + k = _; omega) hn2
            refine ⟨⟨a, fun y hy => b y (by simp [hy]), fun y hy => ?_⟩, b x (by simp)⟩
            rcases c y hy with h1 | h1
            · rcases List.mem_append.1 h1 with h2 | h2
              · exact .inl h2
              · have e := List.mem_singleton.1 h2
                subst e
                exact .inr ⟨hdx, by omega, fun ht => d (by omega)⟩
            · exact .inr h1
        obtain ⟨s1, s2⟩ := st
        obtain ⟨t1, t2⟩ := ih (folStep g k D x) (fun y hy => hl y (by simp [hy])) s1.nd
        refine ⟨⟨t1.nd, fun y hy => t1.sub y (s1.sub y hy), fun y hy => ?_⟩, fun y hy => ?_⟩
        · rcases t1.new y hy with h1 | h1
          · rcases s1.new y h1 with h2 | ⟨h2, h3, h4⟩
            · exact .inl h2
            · exact .inr ⟨h2, h3, fun ht z hz => t1.sub z (h4 ht z hz)⟩
          · exact .inr h1
        · rcases List.mem_cons.1 hy with rfl | hy
          · exact t1.sub _ s2
          · exact t2 y hy
    have := key (madeL s) D (fun _ h => h) hn
    exact ⟨this.1, fun _ => this.2⟩
theorem bvF_val {g : Gm} {w : St → Int} {x : St} (hd : ∀ v ∈ dg g x.turn.toNat, 0 ≤ v) : (bvF g w x).2 = (if (bvF g w x).1 < 0 then 1 else 0) + w (afterS x (bvF g w x).1) := by
  have key : ∀ (l : List Int) (o : Int × Int), (∀ v ∈ l, 0 ≤ v) → o.2 = (if o.1 < 0 then 1 else 0) + w (afterS x o.1) → (l.foldl (considerF w x) o).2 = (if (l.foldl (considerF w x) o).1 < 0 then 1 else 0) + w (afterS x (l.foldl (considerF w x) o).1) := by
    intro l
    induction l with
    | nil => intro o _ h; exact h
    | cons v l ih =>
      intro o hl h
      have hv := hl v (by simp)
      refine ih _ (fun y hy => hl y (by simp [hy])) ?_
      unfold considerF
      split
      · split
        · show w (afterS x v) = (if v < 0 then 1 else 0) + w (afterS x v)
          rw [if_neg (by omega)]
          omega
        · exact h
      · exact h
  unfold bvF
  exact key _ _ hd rfl
def boundB (g : Gm) (x : St) : Int := (BG g x).2
/-- what the plan's rows hold -/
structure PlanR (g : Gm) (l : List PA) : Prop where
  strict : (l.map (·.1)).Pairwise (fun x y => cmpP x y < 0)
  pos : ∀ q ∈ l, q.1 = posS g q.1.st
  dom : ∀ q ∈ l, Dom g q.1.st ∧ q.1.turn < g.deps.length
  next : ∀ q ∈ l, q.1.turn + 1 < g.deps.length → ∀ y ∈ madeL (afterS q.1.st q.1.choice), ∃ r ∈ l, r.1.st = y
  first : 0 < g.deps.length → ∀ y ∈ madeL (beginS g), ∃ r ∈ l, r.1.st = y
theorem PlanOf.rows {g : Gm} (hv : VG g) {l : List PA} (h : PlanOf g (l.map (·.1))) : PlanR g l := by
  obtain ⟨⟨nd, _, new⟩, fst⟩ := fol_props (g := g) g.deps.length (beginS g) [] (Dom.begin hv) (by show (0 : Int) + _ = _; omega) List.nodup_nil
  have hmem : ∀ q ∈ l, ∃ x ∈ followL g g.deps.length (beginS g) [], q.1 = posS g x := fun q hq => by
    have h1 := h.p.mem_iff.1 (List.mem_map.2 ⟨q, hq, rfl⟩)
    obtain ⟨x, hx, e⟩ := List.mem_map.1 h1
    exact ⟨x, hx, e.symm⟩
  have hback : ∀ x ∈ followL g g.deps.length (beginS g) [], ∃ r ∈ l, r.1.st = x := fun x hx => by
    have h1 := h.p.mem_iff.2 (List.mem_map.2 ⟨x, hx, rfl⟩)
    obtain ⟨r, hr, e⟩ := List.mem_map.1 h1
    exact ⟨r, hr, by have e' : r.1 = posS g x := e; rw [e', posS_st]⟩
  have hst : ((l.map (·.1)).map Pos.st).Nodup := by
    have h1 := h.p.map Pos.st
    rw [List.map_map, List.map_map] at h1
    have e : (followL g g.deps.length (beginS g) []).map (Pos.st ∘ posS g) = followL g g.deps.length (beginS g) [] := by
      rw [show (Pos.st ∘ posS g) = id from rfl, List.map_id]
    rw [e] at h1
    rw [List.map_map]
    exact h1.nodup_iff.2 nd
  refine ⟨strict_of h.s hst, fun q hq => ?_, fun q hq => ?_, fun q hq ht y hy => ?_, fun h0 y hy => hback y (fst h0 y hy)⟩
  · obtain ⟨x, hx, e⟩ := hmem q hq
    rw [e, posS_st]
  · obtain ⟨x, hx, e⟩ := hmem q hq
    rcases new x hx with h1 | ⟨h1, h2, _⟩
    · cases h1
    · rw [e, posS_st]
      exact ⟨h1, h2⟩
  · obtain ⟨x, hx, e⟩ := hmem q hq
    rcases new x hx with h1 | ⟨h1, h2, h3⟩
    · cases h1
    · rw [e, posS_st] at hy
      rw [e] at ht
      exact hback y (h3 ht y hy)
theorem PlanR.nodup {g : Gm} {l : List PA} (h : PlanR g l) : (l.map fun x : PA => x.1.st).Nodup := by
  have h1 : (l.map (·.1)).Pairwise (fun x y => x.st ≠ y.st) := h.strict.imp fun {x y} hxy e => by rw [cmpP_of e] at hxy; omega
  have h2 := List.pairwise_map.1 h1
  exact List.pairwise_map.2 h2
theorem PlanR.bound {g : Gm} (hv : VG g) {l : List PA} (h : PlanR g l) {q : PA} (hq : q ∈ l) : q.1.bound = (if q.1.choice < 0 then 1 else 0) + (if q.1.turn + 1 < g.deps.length then maxL ((madeL (afterS q.1.st q.1.choice)).map (boundB g)) else 0) := by
  have e := h.pos q hq
  obtain ⟨hd, ht⟩ := h.dom q hq
  have h0 := hd.t0
  have e1 : q.1.bound = (BG g q.1.st).2 := by rw [e]; rfl
  have e2 : q.1.choice = (BG g q.1.st).1 := by rw [e]; rfl
  have e3 : q.1.st.turn = q.1.turn := rfl
  rw [e1, e2]
  have hb := bvF_val (g := g) (w := WG g) (x := q.1.st) fun v hv' => (okDep_domG (hv.2.2.2.2.2 q.1.st.turn.toNat (by omega)) hv').1
  rw [show (BG g q.1.st).2 = (bvF g (WG g) q.1.st).2 from rfl, hb]
  congr 1
  by_cases hn : q.1.turn + 1 < g.deps.length
  · rw [if_pos hn]
    exact WG_on (by show 0 ≤ q.1.st.turn + 1; omega) (by show q.1.st.turn + 1 < _; omega)
  · rw [if_neg hn]
    exact WG_end (by show _ ≤ q.1.st.turn + 1; omega)
theorem boundB_in {g : Gm} (hv : VG g) (x : St) : 0 ≤ boundB g x ∧ boundB g x ≤ 13 := by
  have := bvF_in (g := g) (w := WG g) (x := x) (b := 12) (WG_in hv)
  exact ⟨this.1, by have h := this.2; show (BG g x).2 ≤ 13; exact h⟩
theorem PlanR.can {g : Gm} {l : List PA} (h : PlanR g l) {q : PA} (hq : q ∈ l) : can g q.1.st q.1.choice := by
  have e := h.pos q hq
  have e2 : q.1.choice = (BG g q.1.st).1 := by rw [e]; rfl
  rw [e2]
  exact BG_can g q.1.st
end Go.Proofs.Ytgjkcnfinjenoaa
namespace Go.Proofs.Ytgjkcnfinjenoaa
open Go.RowKit Go.Maps

/-! ### further positions -/
theorem posAt_more {plan more : List Pos} {s : St} {p : Pos} (h : posAt plan s = some p) : posAt (plan ++ more) s = some p := by
  unfold posAt at h ⊢
  rw [List.find?_append, h]
  rfl
theorem turn_more {g : Gm} {plan : List Pos} (more : List Pos) {s : St} {f : Int} {r : Except Int (St × Int)} (h : turnR g plan s f = r) (hr : r ≠ .error 2) : turnR g (plan ++ more) s f = r := by
  unfold turnR at h ⊢
  cases hp : posAt plan (hitF s f) with
  | none => rw [hp] at h; exact absurd h.symm hr
  | some p => rw [posAt_more hp]; rw [hp] at h; exact h
theorem lost_more {g : Gm} {plan : List Pos} (more : List Pos) : ∀ {F : List Int} {s : St} {n : Int} {r : Except Int Int}, lostL g plan F s n = r → r ≠ .error 2 → lostL g (plan ++ more) F s n = r
  | [], _, _, _, h, _ => h
  | f :: F, s, n, r, h, hr => by
    rw [lostL_cons] at h ⊢
    cases ht : turnR g plan s f with
    | error e =>
      rw [ht] at h
      rw [turn_more more ht (fun e2 => by cases e2; exact hr h.symm)]
      exact h
    | ok y =>
      rw [ht] at h
      rw [turn_more more ht (fun e2 => by cases e2)]
      exact lost_more more h hr
/-- what Lost answers, in numbers -/
noncomputable def lostN (g : Gm) (plan : List Pos) (F : List Int) : Int × Int := open Classical in
  if VG g ∧ AllowG g F then (match lostL g plan F (beginS g) 0 with
    | .ok n => (n, 0)
    | .error e => (0, e)) else (0, 1)
theorem lostN_no {g : Gm} {plan : List Pos} {F : List Int} (h : ¬ (VG g ∧ AllowG g F)) : lostN g plan F = (0, 1) := if_neg h
theorem lostN_yes {g : Gm} {plan : List Pos} {F : List Int} (h : VG g ∧ AllowG g F) : lostN g plan F = match lostL g plan F (beginS g) 0 with
    | .ok n => (n, 0)
    | .error e => (0, e) := if_pos h
theorem lostN_ok {g : Gm} {plan : List Pos} {F : List Int} {n : Int} (h : VG g ∧ AllowG g F) (hl : lostL g plan F (beginS g) 0 = .ok n) : lostN g plan F = (n, 0) := by rw [lostN_yes h, hl]
theorem lostN_in {g : Gm} {plan : List Pos} {F : List Int} : 0 ≤ (lostN g plan F).1 ∧ (lostN g plan F).1 ≤ 12 ∧ ((lostN g plan F).2 = 0 ∨ (lostN g plan F).2 = 1 ∨ (lostN g plan F).2 = 2 ∨ (lostN g plan F).2 = 5) := by
  by_cases h : VG g ∧ AllowG g F
  · rw [lostN_yes h]
    cases hl : lostL g plan F (beginS g) 0 with
    | ok n =>
      have := lostL_in hl
      have h1 := h.1.2.1
      have h2 := h.2.1
      exact ⟨this.1, by show n ≤ 12; omega, .inl rfl⟩
    | error e =>
      have := lostL_err hl
      exact ⟨Int.le_refl _, by show (0 : Int) ≤ 12; omega, .inr (.inr this)⟩
  · rw [lostN_no h]
    exact ⟨Int.le_refl _, by show (0 : Int) ≤ 12; omega, .inr (.inl rfl)⟩
structure MoreF (a b : Int × Int) : Prop where
  ok : a.2 = 0 → b.2 = 0 ∧ a.1 = b.1
  no : a.2 ≠ 0 → a.2 = 2 ∨ b.2 = a.2
theorem more_fact (g : Gm) (plan more : List Pos) (F : List Int) : MoreF (lostN g plan F) (lostN g (plan ++ more) F) := by
  by_cases h : VG g ∧ AllowG g F
  · rw [lostN_yes h, lostN_yes h]
    cases hl : lostL g plan F (beginS g) 0 with
    | ok n =>
      rw [lost_more more hl (fun e => by cases e)]
      exact ⟨fun _ => ⟨rfl, rfl⟩, fun e => absurd rfl e⟩
    | error e =>
      rcases lostL_err hl with rfl | rfl
      · exact ⟨fun e => (by cases e), fun _ => .inl rfl⟩
      · rw [lost_more more hl (fun e => by cases e)]
        exact ⟨fun e => (by cases e), fun _ => .inr rfl⟩
  · rw [lostN_no h, lostN_no h]
    exact ⟨fun e => (by cases e), fun _ => .inr rfl⟩
/-! ### the same failures before a turn -/
def calmF (F : List Int) (t : Nat) : List Int := F.take t ++ List.replicate (F.length - t) (-1)
theorem calm_allF {n : Nat} : ∀ {F : List Int} {t : Nat} {s : St}, F ∈ allF n F.length s → calmF F t ∈ allF n F.length s
  | [], t, s, h => by
    unfold calmF
    simpa using h
  | f :: F, 0, s, h => by
    have e : calmF (f :: F) 0 = List.replicate (f :: F).length (-1) := rfl
    rw [e]
    exact allF_none _ _ _
  | f :: F, t + 1, s, h => by
    rw [List.length_cons] at h ⊢
    obtain ⟨v, G, e, h1, h2, h3⟩ := mem_allF.1 h
    cases e
    have e : calmF (f :: F) (t + 1) = f :: calmF F t := by
      unfold calmF
      rw [List.take_succ_cons, List.length_cons, Nat.add_sub_add_right]
      rfl
    rw [e]
    exact mem_allF.2 ⟨f, _, rfl, h1, h2, calm_allF h3⟩
theorem calm_len (F : List Int) {t : Nat} (ht : t ≤ F.length) : (calmF F t).length = F.length := by unfold calmF; simp; omega
theorem calm_diff {g : Gm} {plan : List Pos} : ∀ {F : List Int} {t : Nat} {s : St} {n a b : Int}, t ≤ F.length → lostL g plan F s n = .ok a → lostL g plan (calmF F t) s n = .ok b → a - b ≤ F.length - t ∧ b - a ≤ F.length - t
  | F, 0, s, n, a, b, _, ha, hb => by
    have h1 := lostL_in ha
    have h2 := lostL_in hb
    rw [calm_len F (Nat.zero_le _)] at h2
    omega
  | [], t + 1, s, n, a, b, ht, _, _ => by simp at ht
  | f :: F, t + 1, s, n, a, b, ht, ha, hb => by
    have e : calmF (f :: F) (t + 1) = f :: calmF F t := by
      unfold calmF
      rw [List.take_succ_cons, List.length_cons, Nat.add_sub_add_right]
      rfl
    rw [e, lostL_cons] at hb
    rw [lostL_cons] at ha
    cases hx : turnR g plan s f with
    | error m => rw [hx] at ha; cases ha
    | ok y =>
      rw [hx] at ha hb
      have := calm_diff (by simpa using ht) ha hb
      rw [List.length_cons]
      omega
structure BegF (a b : Int × Int) (r : Int) : Prop where
  arg : a.2 ≠ 1 → b.2 ≠ 1
  ok : a.2 = 0 → b.2 = 0 → a.1 - b.1 ≤ r ∧ b.1 - a.1 ≤ r
theorem beg_fact (g : Gm) (plan : List Pos) (F : List Int) {t : Nat} (ht : t ≤ F.length) : BegF (lostN g plan F) (lostN g plan (calmF F t)) (F.length - t) := by
  by_cases h : VG g ∧ AllowG g F
  · have hm := (allow_iff h.1).1 h.2
    have hm2 : calmF F t ∈ allG g := by
      have hl := allF_len hm
      unfold allG at hm ⊢
      rw [← hl] at hm ⊢
      exact calm_allF hm
    have h2 : VG g ∧ AllowG g (calmF F t) := ⟨h.1, (allow_iff h.1).2 hm2⟩
    rw [lostN_yes h, lostN_yes h2]
    refine ⟨fun _ => ?_, ?_⟩
    · cases hl : lostL g plan (calmF F t) (beginS g) 0 with
      | ok n => exact fun e => by cases e
      | error e => rcases lostL_err hl with rfl | rfl <;> exact fun e => by cases e
    · cases h3 : lostL g plan F (beginS g) 0 with
      | error e => rcases lostL_err h3 with rfl | rfl <;> exact fun e => by cases e
      | ok a =>
        cases h4 : lostL g plan (calmF F t) (beginS g) 0 with
        | error e => rcases lostL_err h4 with rfl | rfl <;> exact fun _ e => by cases e
        | ok b => exact fun _ _ => calm_diff ht h3 h4
  · rw [lostN_no h]
    exact ⟨fun e => absurd rfl e, fun e => by cases e⟩
/-! ### no failures at all -/
def calmG (g : Gm) : Gm := { g with budget := 0 }
def posC0 (p : Pos) : Pos := { p with budget := 0 }
def stC0 (s : St) : St := { s with budget := 0 }
def stillL (b : Int) (plan : List Pos) : List Pos := (plan.filter fun p => decide (p.budget = b)).map posC0
theorem calm_vg {g : Gm} (h : VG g) : VG (calmG g) := ⟨h.1, h.2.1, Int.le_refl _, by show (0 : Int) ≤ 3; omega, h.2.2.2.2.1, h.2.2.2.2.2⟩
theorem posAt_still (s : St) : ∀ plan : List Pos, posAt (stillL s.budget plan) (stC0 s) = (posAt plan s).map posC0
  | [] => rfl
  | p :: plan => by
    have ih := posAt_still s plan
    unfold posAt stillL at ih ⊢
    rw [List.find?_cons]
    by_cases hb : p.budget = s.budget
    · rw [List.filter_cons_of_pos (by simpa using hb), List.map_cons, List.find?_cons]
      have e : decide ((posC0 p).st = stC0 s) = decide (p.st = s) := by
        rw [Bool.eq_iff_iff, decide_eq_true_iff, decide_eq_true_iff]
        constructor
        · intro h
          have h1 := congrArg St.turn h
          have h2 := congrArg St.starts h
          have h3 := congrArg St.failed h
          exact St.ext' h1 h2 h3 hb
        · intro h
          rw [← h]
          rfl
      rw [e]
      cases h : decide (p.st = s) with
      | true => rfl
      | false => exact ih
    · rw [List.filter_cons_of_neg (by simpa using hb)]
      have e : decide (p.st = s) = false := decide_eq_false fun h => hb (by rw [← h]; rfl)
      rw [e]
      exact ih
theorem turn_still (g : Gm) (plan : List Pos) (s : St) : turnR (calmG g) (stillL s.budget plan) (stC0 s) (-1) = match turnR g plan s (-1) with
    | .error e => .error e
    | .ok y => .ok (stC0 y.1, y.2) := by
  unfold turnR
  rw [hitF_neg, hitF_neg, posAt_still]
  cases hp : posAt plan s with
  | none => rfl
  | some p =>
    show (if p.choice = -1 then Except.ok (afterS (stC0 s) (-1), 1) else if canQ (calmG g) (stC0 s) p.choice then Except.ok (afterS (stC0 s) p.choice, 0) else Except.error 5) =
      match (if p.choice = -1 then Except.ok (afterS s (-1), 1) else if canQ g s p.choice then Except.ok (afterS s p.choice, 0) else Except.error 5 : Except Int (St × Int)) with
      | .error e => .error e
      | .ok y => .ok (stC0 y.1, y.2)
    by_cases h1 : p.choice = -1
    · rw [if_pos h1, if_pos h1]
      rfl
    · rw [if_neg h1, if_neg h1]
      by_cases h2 : canQ g s p.choice
      · have h3 : canQ (calmG g) (stC0 s) p.choice := h2
        rw [if_pos h2, if_pos h3]
        rfl
      · have h3 : ¬ canQ (calmG g) (stC0 s) p.choice := h2
        rw [if_neg h2, if_neg h3]
theorem lost_still (g : Gm) (plan : List Pos) : ∀ (k : Nat) (s : St) (n : Int), lostL (calmG g) (stillL s.budget plan) (List.replicate k (-1)) (stC0 s) n = lostL g plan (List.replicate k (-1)) s n
  | 0, _, _ => rfl
  | k + 1, s, n => by
    rw [List.replicate_succ, lostL_cons, lostL_cons, turn_still]
    cases ht : turnR g plan s (-1) with
    | error e => rfl
    | ok y =>
      have hb := (turn_st ht).1
      rw [hitF_neg] at hb
      show lostL (calmG g) (stillL s.budget plan) (List.replicate k (-1)) (stC0 y.1) (n + y.2) = _
      rw [← hb]
      exact lost_still g plan k y.1 _
theorem allF_zero (n : Nat) : ∀ (k : Nat) (s : St), s.budget = 0 → allF n k s = [List.replicate k (-1)]
  | 0, _, _ => rfl
  | k + 1, s, hb => by
    have e : (vsG n).filter (mvOk s) = [-1] := by
      have ev : vsG n = (-1) :: (List.range n).map (fun (i : Nat) => (i : Int)) := by
        unfold vsG
        rw [List.range_succ_eq_map, List.map_cons, List.map_map]
        congr 1
        refine List.map_congr_left fun i _ => ?_
        simp
      rw [ev, List.filter_cons_of_pos (mvOk_neg s), List.filter_eq_nil_iff.2]
      intro v hv
      obtain ⟨i, _, rfl⟩ := List.mem_map.1 hv
      unfold mvOk
      rw [hb, decide_eq_false (by omega)]
      simp
    rw [allF_succ, e, List.flatMap_cons, List.flatMap_nil, hitF_neg, allF_zero n k s hb, List.append_nil]
    rfl
theorem calm_games {g : Gm} {plan : List Pos} {a : Int} (h : lostL g plan (List.replicate g.deps.length (-1)) (beginS g) 0 = .ok a) : gamesG (calmG g) (stillL g.budget plan) = ([(List.replicate g.deps.length (-1), a)], none) := by
  rw [gamesG_run]
  have e : allG (calmG g) = [List.replicate g.deps.length (-1)] := allF_zero _ _ _ rfl
  have h2 : lostL (calmG g) (stillL g.budget plan) (List.replicate g.deps.length (-1)) (beginS (calmG g)) 0 = .ok a := (lost_still g plan g.deps.length (beginS g) 0).trans h
  rw [e, runL_cons, h2]
  rfl
/-! ### what Worst answers -/
theorem worstV_no {g : Gm} {plan : List Pos} (h : ¬ VG g) : worstV g plan = ([], 0, 1) := if_neg h
theorem worstV_yes {g : Gm} {plan : List Pos} (h : VG g) : worstV g plan = (match (gamesG g plan).2 with
    | none => ((worstF (gamesG g plan).1).1, (worstF (gamesG g plan).1).2, 0)
    | some e => ([], 0, e)) := if_pos h
structure WoFact (g : Gm) (plan : List Pos) (l : List Int) (m e : Int) : Prop where
  ok : e = 0 → VG g ∧ WorstOk g plan l m ∧ (gamesG g plan).2 = none
  no : e ≠ 0 → l = [] ∧ m = 0 ∧ (e = 1 ∧ ¬ VG g ∨ (e = 2 ∨ e = 5) ∧ VG g)
theorem worst_fact (g : Gm) (plan : List Pos) : WoFact g plan (worstV g plan).1 (worstV g plan).2.1 (worstV g plan).2.2 := by
  by_cases hv : VG g
  · rw [worstV_yes hv]
    cases hg : (gamesG g plan).2 with
    | none => exact ⟨fun _ => ⟨hv, worst_okG hg, hg⟩, fun h => absurd rfl h⟩
    | some e =>
      have h2 := gamesL_err hg
      exact ⟨fun h => by
        have h' : e = 0 := h
        omega, fun _ => ⟨rfl, rfl, .inr ⟨h2, hv⟩⟩⟩
  · rw [worstV_no hv]
    exact ⟨fun h => (by cases h), fun _ => ⟨rfl, rfl, .inl ⟨rfl, hv⟩⟩⟩
theorem WorstOk.in {g : Gm} {plan : List Pos} {W : List Int} {m : Int} (h : WorstOk g plan W m) : 0 ≤ m ∧ m ≤ g.deps.length ∧ W.length = g.deps.length := by
  have h1 := lostL_in h.val
  have h2 := allF_len h.mem
  rw [h2] at h1
  exact ⟨h1.1, by omega, h2⟩
theorem WorstOk.calm {g : Gm} {plan : List Pos} {W : List Int} {m : Int} (h : WorstOk g plan W m) (hv : VG g) : ∃ a, lostN g plan (List.replicate g.deps.length (-1)) = (a, 0) ∧ 0 ≤ a ∧ a ≤ m ∧ worstV (calmG g) (stillL g.budget plan) = (List.replicate g.deps.length (-1), a, 0) := by
  have hm : List.replicate g.deps.length (-1) ∈ allG g := allF_none _ _ _
  obtain ⟨a, h1, h2, h3, _⟩ := h.all _ hm
  refine ⟨a, lostN_ok ⟨hv, (allow_iff hv).2 hm⟩ h1, h2, h3, ?_⟩
  rw [worstV_yes (calm_vg hv), calm_games h1]
  have e : worstF [(List.replicate g.deps.length (-1), a)] = (List.replicate g.deps.length (-1), a) := if_pos (by show (-1 : Int) < a; omega)
  simp only [e]
/-! ### the plans of game -/
theorem maxL_att {l : List Int} (hn : l ≠ []) (h : ∀ x ∈ l, 0 ≤ x) : ∃ x ∈ l, x = maxL l := by
  refine Classical.byContradiction fun hc => ?_
  have hle := (maxL_le (l := l) (x := maxL l)).1 (Int.le_refl _)
  have hlt : ∀ x ∈ l, x ≤ maxL l - 1 := fun x hx => by
    have h1 := hle.2 x hx
    have h2 : x ≠ maxL l := fun e => hc ⟨x, hx, e⟩
    omega
  obtain ⟨x, hx⟩ := List.exists_mem_of_ne_nil l hn
  have h1 := hlt x hx
  have h2 := h x hx
  have := (maxL_le (l := l) (x := maxL l - 1)).2 ⟨by omega, hlt⟩
  omega
theorem PlanR.at' {g : Gm} {l : List PA} (h : PlanR g l) {y : St} (hy : ∃ r ∈ l, r.1.st = y) : posAt (l.map (·.1)) y = some (posS g y) := by
  obtain ⟨r, hr, e⟩ := hy
  cases hp : posAt (l.map (·.1)) y with
  | none =>
    have := List.find?_eq_none.1 hp r.1 (List.mem_map.2 ⟨r, hr, rfl⟩)
    simp [e] at this
  | some p =>
    have h1 : p.st = y := of_decide_eq_true (List.find?_some (p := fun p : Pos => decide (p.st = y)) hp)
    obtain ⟨q, hq, rfl⟩ := List.mem_map.1 (List.mem_of_find?_eq_some hp)
    rw [h.pos q hq, h1]
def Rdy (g : Gm) (l : List PA) (s : St) : Prop := s.turn < g.deps.length → ∀ y ∈ madeL s, ∃ r ∈ l, r.1.st = y
theorem hitF_made {n : Nat} {s : St} {v : Int} (hl : s.failed.length = n) (hb : 0 ≤ s.budget) (hv : -1 ≤ v ∧ v < n) (hok : mvOk s v = true) : hitF s v ∈ madeL s := by
  rw [mem_made]
  by_cases h0 : 0 ≤ v
  · unfold mvOk at hok
    rw [decide_eq_false (by omega), Bool.false_or] at hok
    obtain ⟨h1, h2⟩ := Bool.and_eq_true_iff.1 hok
    refine .inr ⟨v.toNat, by omega, ?_, by simpa using h2, if_pos h0⟩
    have : ¬ s.budget = 0 := by simpa using h1
    omega
  · exact .inl (if_neg h0)
theorem made_hitF {n : Nat} {s y : St} (hl : s.failed.length = n) (hy : y ∈ madeL s) : ∃ v : Int, (-1 ≤ v ∧ v < n) ∧ mvOk s v = true ∧ y = hitF s v := by
  rcases mem_made.1 hy with rfl | ⟨v, h1, h2, h3, rfl⟩
  · exact ⟨-1, by omega, rfl, rfl⟩
  · refine ⟨v, by omega, ?_, (if_pos (by omega)).symm⟩
    unfold mvOk
    rw [Int.toNat_natCast, h3, decide_eq_false (by omega : ¬ s.budget = 0)]
    simp
/-- a turn of a plan of game -/
theorem plan_turn {g : Gm} (hv : VG g) {l : List PA} (h : PlanR g l) {s : St} {v : Int} (hD : Dom g s) (ht : s.turn < g.deps.length) (hR : Rdy g l s) (hy : hitF s v ∈ madeL s) :
    ∃ c one : Int, turnR g (l.map (·.1)) s v = .ok (afterS (hitF s v) c, one) ∧ 0 ≤ one ∧ boundB g (hitF s v) = one + WG g (afterS (hitF s v) c) ∧ Dom g (afterS (hitF s v) c) ∧ Rdy g l (afterS (hitF s v) c) ∧ (afterS (hitF s v) c).turn = s.turn + 1 := by
  obtain ⟨y, he⟩ : ∃ y, y = hitF s v := ⟨_, rfl⟩
  rw [← he] at hy ⊢
  have hex := hR ht y hy
  have hdy := hD.made hy
  have hty := made_turn hy
  have hpos := h.at' hex
  have hcan := BG_can g y
  obtain ⟨c, hc⟩ : ∃ c, c = (BG g y).1 := ⟨_, rfl⟩
  have h0 := hdy.t0
  have hbv : boundB g y = (if c < 0 then 1 else 0) + WG g (afterS y c) := by
    rw [hc]
    exact bvF_val (g := g) (w := WG g) (x := y) fun v hv' => (okDep_domG (hv.2.2.2.2.2 y.turn.toNat (by omega)) hv').1
  rw [← hc] at hcan
  have hch : (posS g y).choice = c := by rw [hc]; rfl
  have hrd : Rdy g l (afterS y c) := fun hlt z hz => by
    obtain ⟨r, hr, er⟩ := hex
    have e1 : r.1.turn = y.turn := by rw [← er]; rfl
    have e2 : r.1.choice = c := by rw [h.pos r hr, er]; exact hch
    refine h.next r hr ?_ z (by rw [er, e2]; exact hz)
    have hlt' : y.turn + 1 < g.deps.length := hlt
    omega
  refine ⟨c, if c < 0 then 1 else 0, ?_, by split <;> omega, hbv, hdy.after (by omega) ?_, hrd, by show y.turn + 1 = _; omega⟩
  · unfold turnR
    rw [← he, hpos]
    show (if (posS g y).choice = -1 then _ else if canQ g y (posS g y).choice then _ else _) = _
    rw [hch]
    rcases hcan with rfl | ⟨h1, h2, h3⟩
    · rfl
    · have hge := (okDep_domG (hv.2.2.2.2.2 y.turn.toNat (by omega)) h1).1
      rw [if_neg (by omega), if_pos ⟨h1, h2, by omega⟩, if_neg (by omega)]
  · rcases hcan with h1 | ⟨_, _, h3⟩
    · exact .inl h1
    · exact .inr h3
theorem mem_after {n k : Nat} {y : St} {c : Int} {G : List Int} : G ∈ allF n k (afterS y c) ↔ G ∈ allF n k y := by rw [allF_congr n k (s := afterS y c) (t := y) rfl rfl]
theorem plan_all {g : Gm} (hv : VG g) {l : List PA} (h : PlanR g l) : ∀ (k : Nat) (s : St) (lo : Int), Dom g s → s.turn + k = g.deps.length → Rdy g l s →
    (∀ F ∈ allF g.starts.length k s, ∃ z, lostL g (l.map (·.1)) F s lo = .ok (lo + z) ∧ 0 ≤ z ∧ z ≤ WG g s) ∧ ∃ F ∈ allF g.starts.length k s, lostL g (l.map (·.1)) F s lo = .ok (lo + WG g s)
  | 0, s, lo, hD, hk, _ => by
    have e : WG g s = 0 := WG_end (by omega)
    rw [e]
    refine ⟨fun F hF => ?_, [], by simp [allF], by rw [Int.add_zero]; rfl⟩
    have hF' : F = [] := by simpa [allF] using hF
    subst hF'
    exact ⟨0, by rw [Int.add_zero]; rfl, Int.le_refl _, Int.le_refl _⟩
  | k + 1, s, lo, hD, hk, hR => by
    have ht : s.turn < g.deps.length := by omega
    have hW := WG_on hD.t0 ht
    have hbd := hD.b1
    refine ⟨fun F hF => ?_, ?_⟩
    · obtain ⟨v, G, rfl, hvr, hok, hG⟩ := mem_allF.1 hF
      have hy := hitF_made hD.lf hbd hvr hok
      obtain ⟨c, one, h1, h2, h3, h4, h5, h6⟩ := plan_turn hv h hD ht hR hy
      obtain ⟨z, hz1, hz2, hz3⟩ := (plan_all hv h k (afterS (hitF s v) c) (lo + one) h4 (by omega) h5).1 G (mem_after.2 hG)
      refine ⟨one + z, by rw [lostL_cons, h1]; simp only; rw [hz1, Int.add_assoc], by omega, ?_⟩
      have hle := ((maxL_le (l := (madeL s).map fun x => (BG g x).2) (x := WG g s)).1 (by rw [hW]; exact Int.le_refl _)).2 _ (List.mem_map.2 ⟨_, hy, rfl⟩)
      have h3' : (BG g (hitF s v)).2 = one + WG g (afterS (hitF s v) c) := h3
      omega
    · obtain ⟨x, hx, ex⟩ := maxL_att (l := (madeL s).map fun x => (BG g x).2) (by simp [madeL]) (fun x hx => by
        obtain ⟨y, _, rfl⟩ := List.mem_map.1 hx
        exact (boundB_in hv y).1)
      obtain ⟨y, hy, rfl⟩ := List.mem_map.1 hx
      obtain ⟨v, hvr, hok, rfl⟩ := made_hitF hD.lf hy
      obtain ⟨c, one, h1, h2, h3, h4, h5, h6⟩ := plan_turn hv h hD ht hR hy
      obtain ⟨G, hG, hz⟩ := (plan_all hv h k (afterS (hitF s v) c) (lo + one) h4 (by omega) h5).2
      refine ⟨v :: G, mem_allF.2 ⟨v, G, rfl, hvr, hok, mem_after.1 hG⟩, ?_⟩
      rw [lostL_cons, h1]
      simp only
      have h3' : (BG g (hitF s v)).2 = one + WG g (afterS (hitF s v) c) := h3
      rw [hz, hW, ← ex, h3', Int.add_assoc]
/-- what the laws say of a plan of game -/
structure PlansF (g : Gm) (plan : List Pos) (W : List Int) : Prop where
  worst : worstV g plan = (W, WG g (beginS g), 0)
  len : W.length = g.deps.length
  mem : W ∈ allG g
  yes : ∀ F, AllowG g F → ∃ a, lostN g plan F = (a, 0) ∧ 0 ≤ a ∧ a ≤ WG g (beginS g)
  val : lostN g plan W = (WG g (beginS g), 0)
theorem plans_fact {g : Gm} (hv : VG g) {l : List PA} (h : PlanR g l) : ∃ W, PlansF g (l.map (·.1)) W := by
  obtain ⟨h1, F0, hF0, hv0⟩ := plan_all hv h g.deps.length (beginS g) 0 (Dom.begin hv) (by show (0 : Int) + _ = _; omega) (fun ht => h.first (by have ht' : (0 : Int) < g.deps.length := ht; omega))
  have hnone : (gamesG g (l.map (·.1))).2 = none := by
    rw [gamesG_run]
    exact runL_all fun F hF => by
      obtain ⟨z, hz, _⟩ := h1 F hF
      exact ⟨_, hz⟩
  have hok := worst_okG hnone
  have hWv := worstV_yes (plan := l.map (·.1)) hv
  rw [hnone] at hWv
  obtain ⟨W, hW⟩ : ∃ W, W = (worstF (gamesG g (l.map (·.1))).1).1 := ⟨_, rfl⟩
  obtain ⟨m, hm⟩ : ∃ m, m = (worstF (gamesG g (l.map (·.1))).1).2 := ⟨_, rfl⟩
  simp only [← hW, ← hm] at hok hWv
  have hme : m = WG g (beginS g) := by
    obtain ⟨z, hz, _, hz2⟩ := h1 W hok.mem
    obtain ⟨x, hx, _, hx2, _⟩ := hok.all F0 hF0
    rw [hok.val] at hz
    rw [hv0] at hx
    cases hx
    cases hz
    omega
  rw [hme] at hWv hok
  refine ⟨W, hWv, hok.in.2.2, hok.mem, fun F hF => ?_, lostN_ok ⟨hv, (allow_iff hv).2 hok.mem⟩ hok.val⟩
  obtain ⟨x, hx, h2, h3, _⟩ := hok.all F ((allow_iff hv).1 hF)
  exact ⟨x, lostN_ok ⟨hv, hF⟩ hx, h2, h3⟩
end Go.Proofs.Ytgjkcnfinjenoaa
namespace Go.Proofs.Ytgjkcnfinjenoaa
open Go.RowKit Go.Maps

set_option maxRecDepth 100000 in
set_option maxHeartbeats 2000000 in
theorem rints_any (l m : List Int) (a b : Option Addr) (c d : Nat) (w : World) (hI : Ints w a l) (hJ : Ints w b m) (hl : l.length < 9223372036854775808) :
    Calls Try.prog 15 #[.slice a l.length c, .slice b m.length d] w (RetB (.bool (decide (l = m))) w) := by
  by_cases hlm : l.length = m.length
  · have hm : m.length < 9223372036854775808 := by omega
    have HLM := Lib.hid hlm
    obtain ⟨n, hn⟩ : ∃ n, n = l.length := ⟨_, rfl⟩
    have HN := Lib.hid hn
    have HM := Lib.hid (hn.trans hlm)
    have hJ' := Lib.hid hJ
    have hI' := Lib.hid hI
    rw [← hlm, ← hn]
    have hn64 : n < 9223372036854775808 := by omega
    clear hlm hn hl hm hI hJ
    have e0 : ((n : Int) == (n : Int)) = true := by simp
    go_enter Try.func15, Try.ntmps15
    go_wp2_with fail
    go_loopg [5] (n + 1) (fun k v wr => ∃ i : Nat, i ≤ n ∧ k + i = n + 1 ∧ v = .int .i64 i ∧ Below w.heap.size w wr ∧ ∀ r, r < i → ig l r = ig m r)
    case atStart => exact ⟨0, by omega, by omega, rfl, Below.refl _ _, fun r hr => absurd hr (by omega)⟩
    case round =>
      obtain ⟨i, hi, hki, rfl, hbr, hall⟩ := hrel
      have HA := Lib.hid hall
      have HBR := Lib.hid hbr
      clear hall
      by_cases hlt : i < n
      · obtain ⟨b1, o1, rfl, f1⟩ := (hI'.out.later hbr).fam (by have := HN.out; omega)
        obtain ⟨b2, o2, rfl, f2⟩ := (hJ'.out.later hbr).fam (by have := HM.out; omega)
        have c1 := f1 i (by have := HN.out; omega)
        have c2 := f2 i (by have := HM.out; omega)
        clear f1 f2 hbr
        obtain ⟨u, hu⟩ : ∃ u, u = ig l i := ⟨_, rfl⟩
        obtain ⟨v, hv⟩ : ∃ v, v = ig m i := ⟨_, rfl⟩
        rw [← hu] at c1
        rw [← hv] at c2
        have HU := Lib.hid hu
        have HV := Lib.hid hv
        clear hu hv
        have n1 : (i : Int) < (n : Int) := by omega
        have n0 : (0 : Int) ≤ (i : Int) := by omega
        have hS : ∀ wy : World, Below wr.heap.size wr wy → wy.cell? ⟨b1, o1 + i, none⟩ = some (.int .i64 u) ∧ wy.cell? ⟨b2, o2 + i, none⟩ = some (.int .i64 v) := fun wy hy => ⟨cell_later hy c1, cell_later hy c2⟩
        go_wp2_with fail
        refine wp_flow_s [] [] (by kernel_rfl) (by kernel_rfl) (by kernel_rfl) ?_
        repeat (first | ((with_reducible refine Flow.pure hS StayG.nil (v := ?_) ?_ ?_ ?_ ?_); rotate_left 1; (focus kernel_rfl); (focus (intro _; rfl)); (focus (intro β wx hSw; (try dsimp only at hSw); go_simp; (try with_reducible rfl); done)); (try simp only [Act.put, List.setIfInBounds_toArray, List.set_cons_zero, List.set_cons_succ, Nat.reduceAdd])))
        ((with_reducible refine Flow.stop ?_); dsimp only; intro β w8 hI8)
        have HB8 := Lib.hid (HBR.out.trans (hI8.below.mono HBR.out.size))
        clear hS hI8 c1 c2
        by_cases huv : u = v
        · have e1 : (u == v) = true := by simpa using huv
          have HX := Lib.hid huv
          clear huv
          go_wp2_with fail
          go_roundg (n - i)
          case measure => omega
          case rel => exact ⟨i + 1, by omega, by omega, by go_num, HB8.out, fun r hr => by
            rcases Nat.lt_succ_iff_lt_or_eq.1 hr with h | h
            · exact HA.out r h
            · subst h; rw [← HU.out, ← HV.out]; exact HX.out⟩
        · have e1 : (u == v) = false := by simpa using huv
          have HD := Lib.hid (show decide (l = m) = false from decide_eq_false fun e => huv (by rw [HU.out, HV.out, e]))
          clear huv
          go_wp2_with fail
          go_ret
          exact retB (vbool HD.out.symm) HB8.out
      · obtain rfl : i = n := by omega
        have HD := Lib.hid (show decide (l = m) = true from decide_eq_true (List.ext_getElem HLM.out fun j h1 h2 => by
          have := HA.out j (by rw [HN.out]; exact h1)
          rwa [ig_lt h1, ig_lt h2] at this))
        go_wp2_with fail
        go_ret
        exact retB (vbool HD.out.symm) HBR.out
  · have HD := Lib.hid (show decide (l = m) = false from decide_eq_false fun e => hlm (by rw [e]))
    have e0 : ((l.length : Int) == (m.length : Int)) = false := by simp; omega
    have e0' : (l.length == m.length) = false := by simpa using hlm
    clear hlm
    go_enter Try.func15, Try.ntmps15
    go_wp2_with fail
    go_ret
    exact retB (vbool HD.out.symm) (Below.refl _ _)
/-! ### before -/
theorem bef_drop {F W : List Int} {i : Nat} (h1 : i < F.length) (h2 : i < W.length) : bef (F.drop i) (W.drop i) = (decide (ig F i < ig W i) || (decide (ig F i = ig W i) && bef (F.drop (i + 1)) (W.drop (i + 1)))) := by
  rw [List.drop_eq_getElem_cons h1, List.drop_eq_getElem_cons h2, ig_lt h1, ig_lt h2]
  rfl
theorem bef_done {F W : List Int} {i : Nat} (h : F.length ≤ i ∨ W.length ≤ i) : bef (F.drop i) (W.drop i) = false := by
  rcases h with h | h
  · rw [List.drop_eq_nil_of_le h]
    cases W.drop i <;> rfl
  · rw [List.drop_eq_nil_of_le h]
    cases F.drop i <;> rfl
set_option maxRecDepth 100000 in
set_option maxHeartbeats 2000000 in
theorem before_any (l m : List Int) (a b : Option Addr) (c d : Nat) (w : World) (hI : Ints w a l) (hJ : Ints w b m) (hl : l.length < 9223372036854775808) :
    Calls Try.prog 18 #[.slice a l.length c, .slice b m.length d] w (RetB (.bool (bef l m)) w) := by
  have HI := Lib.hid hI
  have HJ := Lib.hid hJ
  obtain ⟨n, hn⟩ : ∃ n, n = l.length := ⟨_, rfl⟩
  obtain ⟨k, hk⟩ : ∃ n, n = m.length := ⟨_, rfl⟩
  rw [← hn, ← hk]
  rw [← hn] at hl
  have HN := Lib.hid (And.intro hn hk)
  have HB0 := Lib.hid (show bef l m = bef (l.drop 0) (m.drop 0) from by rw [List.drop_zero, List.drop_zero])
  clear hI hJ hn hk
  go_enter Try.func18, Try.ntmps18
  go_wp2_with fail
  go_loopg [5] (n + 1) (fun gk v wr => ∃ i : Nat, i ≤ n ∧ gk + i = n + 1 ∧ v = .int .i64 i ∧ Below w.heap.size w wr ∧ bef l m = bef (l.drop i) (m.drop i))
  case atStart => exact ⟨0, by omega, by omega, rfl, Below.refl _ _, HB0.out⟩
  case round =>
    obtain ⟨i, hi, hki, rfl, hbr, hbf⟩ := hrel
    have HBR := Lib.hid hbr
    have HBF := Lib.hid hbf
    clear hbf
    by_cases hlt : i < n
    · have n1 : decide ((i : Int) < (n : Int)) = true := decide_eq_true (by omega)
      by_cases hlk : i < k
      · obtain ⟨b1, o1, rfl, f1⟩ := (HI.out.later hbr).fam (by have := HN.out.1; omega)
        obtain ⟨b2, o2, rfl, f2⟩ := (HJ.out.later hbr).fam (by have := HN.out.2; omega)
        have c1 := f1 i (by have := HN.out.1; omega)
        have c2 := f2 i (by have := HN.out.2; omega)
        have hst := bef_drop (F := l) (W := m) (i := i) (by have := HN.out.1; omega) (by have := HN.out.2; omega)
        obtain ⟨u, hu⟩ : ∃ u, u = ig l i := ⟨_, rfl⟩
        obtain ⟨v, hv⟩ : ∃ v, v = ig m i := ⟨_, rfl⟩
        rw [← hu] at c1 hst
        rw [← hv] at c2 hst
        have HST := Lib.hid hst
        have n2 : decide ((i : Int) < (k : Int)) = true := decide_eq_true (by omega)
        have n0 : (0 : Int) ≤ (i : Int) := by omega
        have m1 : (i : Int) < (n : Int) := by omega
        have m2 : (i : Int) < (k : Int) := by omega
        have HLT := Lib.hid hlt
        clear f1 f2 hbr hu hv hst hlt hlk
        have hS : ∀ wy : World, Below wr.heap.size wr wy → wy.cell? ⟨b1, o1 + i, none⟩ = some (.int .i64 u) ∧ wy.cell? ⟨b2, o2 + i, none⟩ = some (.int .i64 v) := fun wy hy => ⟨cell_later hy c1, cell_later hy c2⟩
        go_wp2_with fail
        refine wp_flow_s [] [] (by kernel_rfl) (by kernel_rfl) (by kernel_rfl) ?_
        repeat (first | ((with_reducible refine Flow.pure hS StayG.nil (v := ?_) ?_ ?_ ?_ ?_); rotate_left 1; (focus kernel_rfl); (focus (intro _; rfl)); (focus (intro β wx hSw; (try dsimp only at hSw); go_simp; (try with_reducible rfl); done)); (try simp only [Act.put, List.setIfInBounds_toArray, List.set_cons_zero, List.set_cons_succ, Nat.reduceAdd])))
        ((with_reducible refine Flow.stop ?_); dsimp only; intro β w8 hI8)
        have HB8 := Lib.hid (HBR.out.trans (hI8.below.mono HBR.out.size))
        have HC := Lib.hid (hS w8 hI8.below)
        clear hS hI8 c1 c2
        by_cases huv : u = v
        · have e1 : (u == v) = true := by simpa using huv
          have HX := Lib.hid (show bef l m = bef (l.drop (i + 1)) (m.drop (i + 1)) from by
            rw [HBF.out, HST.out, decide_eq_false (by omega), decide_eq_true huv]
            rfl)
          clear huv
          go_wp2_with fail
          go_roundg (n - i)
          case measure => have := HLT.out; omega
          case rel => exact ⟨i + 1, HLT.out, by have := HLT.out; omega, by go_num, HB8.out, HX.out⟩
        · have e1 : (u == v) = false := by simpa using huv
          have HX := Lib.hid (show bef l m = decide (u < v) from by
            rw [HBF.out, HST.out, decide_eq_false huv]
            simp)
          have c1 := HC.out.1
          have c2 := HC.out.2
          clear huv
          have hS : ∀ wy : World, Below w8.heap.size w8 wy → wy.cell? ⟨b1, o1 + i, none⟩ = some (.int .i64 u) ∧ wy.cell? ⟨b2, o2 + i, none⟩ = some (.int .i64 v) := fun wy hy => ⟨cell_later hy c1, cell_later hy c2⟩
          go_wp2_with fail
          refine wp_flow_s [] [] (by kernel_rfl) (by kernel_rfl) (by kernel_rfl) ?_
          repeat (first | ((with_reducible refine Flow.pure hS StayG.nil (v := ?_) ?_ ?_ ?_ ?_); rotate_left 1; (focus kernel_rfl); (focus (intro _; rfl)); (focus (intro β wx hSw; (try dsimp only at hSw); go_simp; (try with_reducible rfl); done)); (try simp only [Act.put, List.setIfInBounds_toArray, List.set_cons_zero, List.set_cons_succ, Nat.reduceAdd])))
          ((with_reducible refine Flow.stop ?_); dsimp only; intro β9 w9 hI9)
          have HB9 := Lib.hid (HB8.out.trans (hI9.below.mono HB8.out.size))
          clear hS hI9 c1 c2
          go_wp2_with fail
          go_ret
          exact retB (vbool HX.out.symm) HB9.out
      · have n2 : decide ((i : Int) < (k : Int)) = false := decide_eq_false (by omega)
        have n0 : (0 : Int) ≤ (i : Int) := by omega
        have HD := Lib.hid (show bef l m = false from by rw [HBF.out]; exact bef_done (.inr (by have := HN.out.2; omega)))
        go_wp2_with fail
        go_ret
        exact retB (vbool HD.out.symm) HBR.out
    · have n1 : decide ((i : Int) < (n : Int)) = false := decide_eq_false (by omega)
      have HD := Lib.hid (show bef l m = false from by rw [HBF.out]; exact bef_done (.inl (by have := HN.out.1; omega)))
      go_wp2_with fail
      go_ret
      exact retB (vbool HD.out.symm) HBR.out
/-! ### in, Allowed -/
set_option maxRecDepth 100000 in
set_option maxHeartbeats 2000000 in
theorem in_any (l : List Int) (a : Option Addr) (c : Nat) (x : Int) (w : World) (hI : Ints w a l) (hl : l.length < 9223372036854775808) :
    Calls Try.prog 29 #[.slice a l.length c, .int .i64 x] w (RetS (.bool (decide (x ∈ l))) w) := by
  have HI := Lib.hid hI
  obtain ⟨n, hn⟩ : ∃ n, n = l.length := ⟨_, rfl⟩
  rw [← hn]
  rw [← hn] at hl
  have HN := Lib.hid hn
  clear hI hn
  go_enter Try.func29, Try.ntmps29
  go_wp2_with fail
  go_loopg [5] (n + 1) (fun gk v wr => ∃ i : Nat, i ≤ n ∧ gk + i = n + 1 ∧ v = .int .i64 i ∧ w = wr ∧ x ∉ l.take i)
  case atStart => exact ⟨0, by omega, by omega, rfl, rfl, by simp⟩
  case round =>
    obtain ⟨i, hi, hki, rfl, rfl, hno⟩ := hrel
    have HNO := Lib.hid hno
    clear hno
    by_cases hlt : i < n
    · have hL : i < l.length := by have := HN.out; omega
      obtain ⟨b1, o1, rfl, f1⟩ := HI.out.fam (by omega)
      have c1 := f1 i hL
      have htk : l.take (i + 1) = l.take i ++ [ig l i] := by rw [take_snoc hL, ig_lt hL]
      have hme : ig l i ∈ l := ig_mem hL
      obtain ⟨u, hu⟩ : ∃ u, u = ig l i := ⟨_, rfl⟩
      rw [← hu] at c1 htk hme
      have HTK := Lib.hid htk
      have HME := Lib.hid hme
      have n1 : (i : Int) < (n : Int) := by omega
      have n0 : (0 : Int) ≤ (i : Int) := by omega
      clear f1 hu htk hme hL
      by_cases hux : u = x
      · have e1 : (u == x) = true := by simpa using hux
        have HD := Lib.hid (show decide (x ∈ l) = true from decide_eq_true (by rw [← hux]; exact HME.out))
        clear hux
        go_wp2_with fail
        go_ret
        exact retS (vbool HD.out.symm)
      · have e1 : (u == x) = false := by simpa using hux
        have HD := Lib.hid (show x ∉ l.take (i + 1) from by
          rw [HTK.out]
          simp only [List.mem_append, List.mem_singleton, not_or]
          exact ⟨HNO.out, fun e => hux e.symm⟩)
        clear hux
        go_wp2_with fail
        go_roundg (n - i)
        case measure => omega
        case rel => exact ⟨i + 1, by omega, by omega, by go_num, rfl, HD.out⟩
    · obtain rfl : i = n := by omega
      have HD := Lib.hid (show decide (x ∈ l) = false from decide_eq_false (by have h := HNO.out; rwa [HN.out, List.take_length] at h))
      go_wp2_with fail
      go_ret
      exact retS (vbool HD.out.symm)
theorem fold_mem {n : Nat} (hn : n ≤ 6) : ∀ {F : List Int} {fb : List Bool} {c : Int} {y : List Bool × Int}, fb.length = 6 → F.foldl (failStep n) (some (fb, c)) = some y → y.1.length = 6 ∧ ∀ v, v < 6 → bg y.1 v = (bg fb v || decide ((v : Int) ∈ F))
  | [], fb, c, y, hl, h => by
    cases h
    exact ⟨hl, fun v _ => by simp⟩
  | f :: F, fb, c, y, hl, h => by
    rw [List.foldl_cons] at h
    by_cases hbad : f < -1 ∨ (n : Int) ≤ f ∨ (0 ≤ f ∧ bg fb f.toNat = true)
    · rw [show failStep n (some (fb, c)) f = none from if_pos hbad, failO_none] at h
      cases h
    · by_cases h0 : 0 ≤ f
      · rw [show failStep n (some (fb, c)) f = some (fb.set f.toNat true, c + 1) from by
          show (if _ then _ else _) = _
          rw [if_neg hbad, if_pos h0]] at h
        obtain ⟨h1, h2⟩ := fold_mem hn (by rw [List.length_set]; exact hl) h
        refine ⟨h1, fun v hv => ?_⟩
        rw [h2 v hv, bg_setT (by omega)]
        by_cases e : f.toNat = v
        · rw [if_pos e]
          have : (v : Int) ∈ f :: F := by rw [List.mem_cons]; exact .inl (by omega)
          rw [decide_eq_true this]
          simp
        · rw [if_neg e]
          have : ((v : Int) ∈ f :: F) ↔ (v : Int) ∈ F := by
            rw [List.mem_cons]
            exact ⟨fun h => h.resolve_left (by omega), .inr⟩
          rw [decide_eq_decide.2 this]
      · rw [show failStep n (some (fb, c)) f = some (fb, c) from by
          show (if _ then _ else _) = _
          rw [if_neg hbad, if_neg h0]] at h
        obtain ⟨h1, h2⟩ := fold_mem hn hl h
        refine ⟨h1, fun v hv => ?_⟩
        have : ((v : Int) ∈ f :: F) ↔ (v : Int) ∈ F := by
          rw [List.mem_cons]
          exact ⟨fun h => h.resolve_left (by omega), .inr⟩
        rw [h2 v hv, decide_eq_decide.2 this]
noncomputable def allowB (g : Gm) (F : List Int) : Bool := @decide (AllowG g F) (Classical.propDecidable _)
theorem allowB_true {g : Gm} {F : List Int} (h : AllowG g F) : allowB g F = true := by unfold allowB; exact @decide_eq_true _ (Classical.propDecidable _) h
theorem allowB_false {g : Gm} {F : List Int} (h : ¬ AllowG g F) : allowB g F = false := by unfold allowB; exact @decide_eq_false _ (Classical.propDecidable _) h
theorem allowB_dec {g : Gm} {F : List Int} {c : Int} (hl : F.length = g.deps.length) {fb : List Bool} (hf : F.foldl (failStep g.starts.length) (some (List.replicate 6 false, 0)) = some (fb, c)) : allowB g F = decide (c ≤ g.budget) := by
  by_cases h : c ≤ g.budget
  · rw [decide_eq_true h]
    exact allowB_true ⟨hl, _, hf, h⟩
  · rw [decide_eq_false h]
    refine allowB_false ?_
    rintro ⟨_, x, hx, hb⟩
    unfold failO at hx
    rw [hf] at hx
    cases hx
    exact h hb
theorem allowB_bad {g : Gm} {F : List Int} {i : Nat} (h : (F.take i).foldl (failStep g.starts.length) (some (List.replicate 6 false, 0)) = none) : allowB g F = false := by
  refine allowB_false ?_
  rintro ⟨_, x, hx, _⟩
  unfold failO at hx
  rw [← List.take_append_drop i F, List.foldl_append, h, failO_none] at hx
  cases hx
theorem Ints.takeI {w : World} {a : Option Addr} {l : List Int} (h : Ints w a l) (i : Nat) : Ints w a (l.take i) := fun j hj => by
  rw [List.length_take] at hj
  obtain ⟨b, off, e, hc⟩ := h j (by omega)
  refine ⟨b, off, e, ?_⟩
  rw [hc, ig_lt (by omega), ig_lt (by rw [List.length_take]; exact hj), List.getElem_take]
theorem fail_bad {n : Nat} {x : List Bool × Int} {f : Int} (h : f < -1 ∨ (n : Int) ≤ f ∨ (0 ≤ f ∧ bg x.1 f.toNat = true)) : [f].foldl (failStep n) (some x) = none := if_pos h
theorem fail_neg {n : Nat} {x : List Bool × Int} : [(-1 : Int)].foldl (failStep n) (some x) = some x := by
  show (if _ then _ else _) = _
  rw [if_neg (by omega), if_neg (by omega)]
theorem fail_set {n : Nat} {x : List Bool × Int} {f : Int} (h0 : 0 ≤ f) (h1 : f < n) (h2 : bg x.1 f.toNat = false) : [f].foldl (failStep n) (some x) = some (x.1.set f.toNat true, x.2 + 1) := by
  show (if _ then _ else _) = _
  rw [if_neg (by rw [h2]; simp; omega), if_pos h0]
set_option maxRecDepth 100000 in
set_option maxHeartbeats 4000000 in
theorem allowed_any (g : Gm) (sa da : Option Addr) (sc dc : Nat) (F : List Int) (fa : Option Addr) (fc : Nat) (w : World) (hG : GmAt w g sa da) (hn6 : g.starts.length ≤ 6) (hFi : Ints w fa F) (hFl : F.length ≤ 1000) (hfc : F.length ≤ fc) :
    Calls Try.prog 17 #[gmV g sa sc da dc, .slice fa F.length fc] w (RetB (.bool (allowB g F)) w) := by
  have _u := hG; clear _u
  obtain ⟨n, hn⟩ : ∃ n, n = g.starts.length := ⟨_, rfl⟩
  obtain ⟨nd, hnd⟩ : ∃ n, n = g.deps.length := ⟨_, rfl⟩
  obtain ⟨bu, hbu⟩ : ∃ n, n = g.budget := ⟨_, rfl⟩
  obtain ⟨nf, hnf⟩ : ∃ n, n = F.length := ⟨_, rfl⟩
  unfold gmV
  rw [← hn, ← hnd, ← hbu, ← hnf]
  rw [← hn] at hn6
  rw [← hnf] at hFl hfc
  have HN := Lib.hid (And.intro hn (And.intro hnd hbu))
  have HNF := Lib.hid hnf
  have HFI := Lib.hid hFi
  clear hG hFi hn hnd hbu hnf
  go_enter Try.func17, Try.ntmps17
  go_upto_region 1 with fail
  refine wp_named ?_
  intro w1 hw1
  obtain ⟨hb1, hs1, hg1, _⟩ := alloc1 w [.slice sa n sc, .slice da nd dc, .int .i64 bu] _ w1 hw1
  have HB1 := Lib.hid hb1
  have HG1 := Lib.hid hg1
  have c1 := (hg1 1 _ rfl).1
  clear hw1 hb1 hs1 hg1
  by_cases hlen : nf = nd
  · have e1 : ((nf : Int) == (nd : Int)) = true := by simp; omega
    have HLEN := Lib.hid (show F.length = g.deps.length by rw [← HNF.out, ← HN.out.2.1, hlen])
    obtain ⟨md, hmd⟩ : ∃ m, m = nd := ⟨_, rfl⟩
    clear hlen
    go_wp2_with fail
    obtain ⟨bq, hbq⟩ : ∃ b, b = ((nf : Int) != (nd : Int)) := ⟨_, rfl⟩
    rw [← hbq]
    clear c1 e1 hbq
    go_loopg [5, 6] (nf + 1) (fun gk v5 v6 wr => ∃ (i : Nat) (fb : List Bool) (cnt : Int), i ≤ nf ∧ gk + i = nf + 1 ∧ v6 = .int .i64 i ∧ v5 = .int .i64 cnt ∧ fb.length = 6 ∧ 0 ≤ cnt ∧ cnt ≤ i ∧ (F.take i).foldl (failStep n) (some (List.replicate 6 false, 0)) = some (fb, cnt) ∧ Below w1.heap.size w1 wr)
    case atStart => exact ⟨0, List.replicate 6 false, 0, by omega, by omega, rfl, rfl, rfl, Int.le_refl _, Int.le_refl _, rfl, Below.refl _ _⟩
    case round =>
      obtain ⟨i, fb, cnt, hi, hgi, rfl, rfl, hfl, hc0, hc1, hfo, hbr⟩ := hrel
      obtain ⟨wq, hwq⟩ : ∃ wq, wq = wr := ⟨_, rfl⟩
      subst hwq
      have HFO := Lib.hid hfo
      have HBQ := Lib.hid hbr
      have HBW := Lib.hid (HB1.out.trans (hbr.mono HB1.out.size))
      have HFL := Lib.hid hfl
      clear hfo hbr hfl
      by_cases hlt : i < nf
      · have hL : i < F.length := by have := HNF.out; omega
        obtain ⟨eb, eo, rfl, fp⟩ := (HFI.out.later HBW.out).fam (by omega)
        have kf := fp i hL
        have htk : F.take (i + 1) = F.take i ++ [ig F i] := by rw [take_snoc hL, ig_lt hL]
        obtain ⟨f, hf⟩ : ∃ f, f = ig F i := ⟨_, rfl⟩
        rw [← hf] at kf htk
        have HTK := Lib.hid htk
        have i1 : (i : Int) < (nf : Int) := by omega
        have i0 : (0 : Int) ≤ (i : Int) := by omega
        have ic : (i : Int) ≤ (fc : Int) := by omega
        have HLT := Lib.hid hlt
        have c0 := ((HG1.out.later HBQ.out) 0 _ rfl).1
        clear fp hf htk hL hlt
        by_cases hm1 : f = -1
        · have e1 : (f == (-1 : Int)) = true := by simpa using hm1
          have HNX := Lib.hid (show (F.take (i + 1)).foldl (failStep n) (some (List.replicate 6 false, 0)) = some (fb, cnt) from by rw [HTK.out, List.foldl_append, HFO.out, hm1]; exact fail_neg)
          clear hm1
          go_wp2_with fail
          go_roundg (nf - i)
          case measure => have := HLT.out; omega
          case rel => exact ⟨i + 1, fb, cnt, HLT.out, by have := HLT.out; omega, by go_num, rfl, HFL.out, hc0, by omega, HNX.out, HBQ.out⟩
        have e1 : (f == (-1 : Int)) = false := by simpa using hm1
        by_cases hneg : f < 0
        · have e2 : decide (f < 0) = true := decide_eq_true hneg
          have HNO := Lib.hid (show allowB g F = false from allowB_bad (i := i + 1) (by rw [HTK.out, List.foldl_append, ← HN.out.1, HFO.out]; exact fail_bad (.inl (by omega))))
          have hS : ∀ wy : World, Below wq.heap.size wq wy → wy.cell? ⟨eb, eo + i, none⟩ = some (.int .i64 f) := fun wy hy => cell_later hy kf
          clear hm1 hneg
          go_wp2_with fail
          refine wp_flow_s [] [] (by kernel_rfl) (by kernel_rfl) (by kernel_rfl) ?_
          repeat (first | ((with_reducible refine Flow.pure hS StayG.nil (v := ?_) ?_ ?_ ?_ ?_); rotate_left 1; (focus kernel_rfl); (focus (intro _; rfl)); (focus (intro β wx hSw; (try dsimp only at hSw); go_simp; (try with_reducible rfl); done)); (try simp only [Act.put, List.setIfInBounds_toArray, List.set_cons_zero, List.set_cons_succ, Nat.reduceAdd])) | ((with_reducible refine Flow.skip StayG.nil ?_ ?_ ?_); (focus kernel_rfl); (focus (intro _; rfl)); (try simp only [Act.put, List.setIfInBounds_toArray, List.set_cons_zero, List.set_cons_succ, Nat.reduceAdd])))
          ((with_reducible refine Flow.stop ?_); dsimp only; intro β w8 hI8)
          have HB8 := Lib.hid (HBW.out.trans (hI8.below.mono HBW.out.size))
          clear hS hI8
          go_wp2_with fail
          go_ret
          exact retB (vbool HNO.out.symm) HB8.out
        have e2 : decide (f < 0) = false := decide_eq_false hneg
        by_cases hge : (n : Int) ≤ f
        · have e3 : decide ((n : Int) ≤ f) = true := decide_eq_true hge
          have HNO := Lib.hid (show allowB g F = false from allowB_bad (i := i + 1) (by rw [HTK.out, List.foldl_append, ← HN.out.1, HFO.out]; exact fail_bad (.inr (.inl hge))))
          have hS : ∀ wy : World, Below wq.heap.size wq wy → wy.cell? ⟨eb, eo + i, none⟩ = some (.int .i64 f) ∧ wy.cell? ⟨w.heap.size, 0, none⟩ = some (.slice sa n sc) := fun wy hy => ⟨cell_later hy kf, cell_later hy c0⟩
          clear hm1 hneg hge
          go_wp2_with fail
          refine wp_flow_s [] [] (by kernel_rfl) (by kernel_rfl) (by kernel_rfl) ?_
          repeat (first | ((with_reducible refine Flow.pure hS StayG.nil (v := ?_) ?_ ?_ ?_ ?_); rotate_left 1; (focus kernel_rfl); (focus (intro _; rfl)); (focus (intro β wx hSw; (try dsimp only at hSw); go_simp; (try with_reducible rfl); done)); (try simp only [Act.put, List.setIfInBounds_toArray, List.set_cons_zero, List.set_cons_succ, Nat.reduceAdd])) | ((with_reducible refine Flow.skip StayG.nil ?_ ?_ ?_); (focus kernel_rfl); (focus (intro _; rfl)); (try simp only [Act.put, List.setIfInBounds_toArray, List.set_cons_zero, List.set_cons_succ, Nat.reduceAdd])))
          ((with_reducible refine Flow.stop ?_); dsimp only; intro β w8 hI8)
          have HB8 := Lib.hid (HBW.out.trans (hI8.below.mono HBW.out.size))
          clear hS hI8
          go_wp2_with fail
          go_ret
          exact retB (vbool HNO.out.symm) HB8.out
        have e3 : decide ((n : Int) ≤ f) = false := decide_eq_false hge
        obtain ⟨kn, rfl⟩ : ∃ kn : Nat, f = kn := ⟨f.toNat, by omega⟩
        have hkn : kn < n := by omega
        have e3n : decide (n ≤ kn) = false := decide_eq_false (by omega)
        have hmm := (fold_mem hn6 (by simp) HFO.out).2 kn (by omega)
        rw [bg_rep, Bool.false_or] at hmm
        have hti : (F.take i).length = i := by rw [List.length_take, ← HNF.out]; omega
        have hIN := fun (wy : World) (hy : Below wq.heap.size wq wy) => in_any (F.take i) (some ⟨eb, eo, none⟩) fc kn wy ((HFI.out.later (HBW.out.trans (hy.mono HBW.out.size))).takeI i) (by rw [hti]; omega)
        simp only [hti, ← hmm] at hIN
        obtain ⟨isin, his⟩ : ∃ b, b = bg fb kn := ⟨_, rfl⟩
        rw [← his] at hIN
        have HIN := Lib.hid hIN
        have HIS := Lib.hid his
        have hS : ∀ wy : World, Below wq.heap.size wq wy → wy.cell? ⟨eb, eo + i, none⟩ = some (.int .i64 kn) ∧ wy.cell? ⟨w.heap.size, 0, none⟩ = some (.slice sa n sc) := fun wy hy => ⟨cell_later hy kf, cell_later hy c0⟩
        have HKN := Lib.hid hkn
        clear hm1 hneg hge hmm hti hIN his hkn
        go_wp2_with fail
        refine wp_flow_s [] [] (by kernel_rfl) (by kernel_rfl) (by kernel_rfl) ?_
        repeat (first | ((with_reducible refine Flow.pure hS StayG.nil (v := ?_) ?_ ?_ ?_ ?_); rotate_left 1; (focus kernel_rfl); (focus (intro _; rfl)); (focus (intro β wx hSw; (try dsimp only at hSw); go_simp; (try with_reducible rfl); done)); (try simp only [Act.put, List.setIfInBounds_toArray, List.set_cons_zero, List.set_cons_succ, Nat.reduceAdd])) | ((with_reducible refine Flow.skip StayG.nil ?_ ?_ ?_); (focus kernel_rfl); (focus (intro _; rfl)); (try simp only [Act.put, List.setIfInBounds_toArray, List.set_cons_zero, List.set_cons_succ, Nat.reduceAdd])) | ((with_reducible refine Flow.call hS StayG.nil (v := ?_) ?_ ?_ ?_ ?_); rotate_left 1; (focus kernel_rfl); (focus (intro _; rfl)); (focus (intro β L wx hI hat hSw K' hK; (try dsimp only at hSw); go_simp; go_at_call 29; refine Calls.mono (HIN.out wx hI.below) ?_; rintro e w' ⟨rfl, rfl⟩; exact hK.out _ (Below.refl _ _))); (try simp only [Act.put, List.setIfInBounds_toArray, List.set_cons_zero, List.set_cons_succ, Nat.reduceAdd])))
        ((with_reducible refine Flow.stop ?_); dsimp only; intro β w8 hI8)
        have HB8 := Lib.hid (HBQ.out.trans (hI8.below.mono HBQ.out.size))
        have HB8W := Lib.hid (HBW.out.trans (hI8.below.mono HBW.out.size))
        clear hS hI8 c0 kf
        cases isin
        · have HNX := Lib.hid (show (F.take (i + 1)).foldl (failStep n) (some (List.replicate 6 false, 0)) = some (fb.set kn true, cnt + 1) from by rw [HTK.out, List.foldl_append, HFO.out]; exact fail_set (by omega) (by have := HKN.out; omega) HIS.out.symm)
          have wv : IntKind.i64.wrap (cnt + 1) = cnt + 1 := IntWalk.i64_in _ (by omega)
          go_wp2_with fail
          go_roundg (nf - i)
          case measure => have := HLT.out; omega
          case rel => exact ⟨i + 1, fb.set kn true, cnt + 1, HLT.out, by have := HLT.out; omega, by go_num, rfl, by rw [List.length_set]; exact HFL.out, by omega, by omega, HNX.out, HB8.out⟩
        · have HNO := Lib.hid (show allowB g F = false from allowB_bad (i := i + 1) (by rw [HTK.out, List.foldl_append, ← HN.out.1, HFO.out]; exact fail_bad (.inr (.inr ⟨by omega, HIS.out.symm⟩))))
          go_wp2_with fail
          go_ret
          exact retB (vbool HNO.out.symm) HB8W.out
      · obtain rfl : nf = i := by omega
        have HAL := Lib.hid (show allowB g F = decide (cnt ≤ bu) from by
          have h := HFO.out
          rw [List.take_of_length_le (by rw [HNF.out]; exact Nat.le_refl _), HN.out.1] at h
          rw [allowB_dec HLEN.out h, ← HN.out.2.2])
        have c2 := ((HG1.out.later HBQ.out) 2 _ rfl).1
        clear hlt
        go_wp2_with fail
        go_ret
        exact retB (vbool HAL.out.symm) HBW.out
  · have e1 : ((nf : Int) == (nd : Int)) = false := by simp; omega
    have HNO := Lib.hid (show allowB g F = false from allowB_false fun h => hlen (by rw [HNF.out, HN.out.2.1]; exact h.1))
    clear hlen
    go_wp2_with fail
    go_ret
    exact retB (vbool HNO.out.symm) HB1.out
/-! ### few -/
structure FewP (g : Gm) (l : List PA) : Prop where
  d : g.deps.length ≤ 5
  s : g.starts.length ≤ 3
  n : l.length ≤ 400
  r : ∀ i, i < g.deps.length → (dg g i).length ≤ 10
theorem FewP.few {g : Gm} {l : List PA} (h : FewP g l) : GmFew g := ⟨by have := h.s; omega, by have := h.d; omega, fun i hi => by have := h.r i hi; omega⟩
def RetFp (g : Gm) (l : List PA) (w : World) (e : Ending) (w' : World) : Prop := Below w.heap.size w w' ∧ (e = .returned (.bool false) ∨ e = .returned (.bool true) ∧ FewP g l)
set_option maxRecDepth 100000 in
set_option maxHeartbeats 4000000 in
theorem rfewp_any (g : Gm) (sa da : Option Addr) (sc dc : Nat) (l : List PA) (a : Option Addr) (c : Nat) (w : World) (hG : GmAt w g sa da) (hL : LaP w a l) (hll : l.length < 9223372036854775808) (hdl : g.deps.length < 9223372036854775808) : Calls Try.prog 21 #[gmV g sa sc da dc, .slice a l.length c] w (RetFp g l w) := by
  have HG := Lib.hid hG
  have HL := Lib.hid hL
  obtain ⟨n, hn⟩ : ∃ n, n = g.starts.length := ⟨_, rfl⟩
  obtain ⟨bu, hbu⟩ : ∃ n, n = g.budget := ⟨_, rfl⟩
  obtain ⟨nd, hnd⟩ : ∃ n, n = g.deps.length := ⟨_, rfl⟩
  obtain ⟨ll, hlq⟩ : ∃ n, n = l.length := ⟨_, rfl⟩
  unfold gmV
  rw [← hn, ← hnd, ← hbu, ← hlq]
  rw [← hlq] at hll
  rw [← hnd] at hdl
  have HN := Lib.hid (And.intro hn (And.intro hnd (And.intro hbu hlq)))
  clear hG hL hn hbu hnd hlq
  go_enter Try.func21, Try.ntmps21
  go_upto_region 1 with fail
  refine wp_named ?_
  intro w1 hw1
  obtain ⟨hb1, hs1, hg, _⟩ := alloc1 w [.slice sa n sc, .slice da nd dc, .int .i64 bu] _ w1 hw1
  have HB1 := Lib.hid hb1
  have HGX := Lib.hid hg
  have c0 := (hg 0 _ rfl).1
  have c1 := (hg 1 _ rfl).1
  clear hw1 hb1 hs1 hg
  rcases Nat.lt_or_ge 5 nd with h5 | h5
  · have e5 : decide ((5 : Int) < (nd : Int)) = true := decide_eq_true (by omega)
    go_wp2_with fail
    go_ret
    exact ⟨HB1.out, .inl rfl⟩
  have e5 : decide ((5 : Int) < (nd : Int)) = false := decide_eq_false (by omega)
  rcases Nat.lt_or_ge 3 n with h3 | h3
  · have e3 : decide ((3 : Int) < (n : Int)) = true := decide_eq_true (by omega)
    go_wp2_with fail
    go_ret
    exact ⟨HB1.out, .inl rfl⟩
  have e3 : decide ((3 : Int) < (n : Int)) = false := decide_eq_false (by omega)
  rcases Nat.lt_or_ge 400 ll with h4 | h4
  · have e4 : decide ((400 : Int) < (ll : Int)) = true := decide_eq_true (by omega)
    go_wp2_with fail
    go_ret
    exact ⟨HB1.out, .inl rfl⟩
  have e4 : decide ((400 : Int) < (ll : Int)) = false := decide_eq_false (by omega)
  go_wp2_with fail
  clear c0 c1 e5 e3 e4
  go_loopg [5] (nd + 1) (fun gk v5 wr => ∃ i : Nat, i ≤ nd ∧ gk + i = nd + 1 ∧ v5 = .int .i64 i ∧ w1 = wr ∧ ∀ j, j < i → (dg g j).length ≤ 10)
  case atStart => exact ⟨0, by omega, by omega, rfl, rfl, fun j h => by omega⟩
  case round =>
    obtain ⟨i, hi, hgi, rfl, rfl, hrow⟩ := hrel
    have HROW := Lib.hid hrow
    clear hrow
    have c1 := (HGX.out 1 _ rfl).1
    by_cases hlt : i < nd
    · obtain ⟨db, doff, ra, rc, rfl, hr, _⟩ := HG.out.d i (by rw [← HN.out.2.1]; exact hlt)
      have kr := cell_later HB1.out hr
      obtain ⟨m, hm⟩ : ∃ m, m = (g.deps.getD i []).length := ⟨_, rfl⟩
      rw [← hm] at kr
      have i1 : (i : Int) < (nd : Int) := by omega
      have i0 : (0 : Int) ≤ (i : Int) := by omega
      have HM := Lib.hid (show m = (dg g i).length from hm)
      have HLT := Lib.hid hlt
      clear hr hm hlt
      rcases Nat.lt_or_ge 10 m with h10 | h10
      · have e10 : decide ((10 : Int) < (m : Int)) = true := decide_eq_true (by omega)
        go_wp2_with fail
        go_ret
        exact ⟨HB1.out, .inl rfl⟩
      have e10 : decide ((10 : Int) < (m : Int)) = false := decide_eq_false (by omega)
      have HNX := Lib.hid (show ∀ j, j < i + 1 → (dg g j).length ≤ 10 from fun j hj => by
        by_cases hji : j < i
        · exact HROW.out j hji
        · obtain rfl : j = i := by omega
          rw [← HM.out]
          exact h10)
      go_wp2_with fail
      go_roundg (nd - i)
      case measure => have := HLT.out; omega
      case rel => exact ⟨i + 1, HLT.out, by have := HLT.out; omega, by go_num, rfl, HNX.out⟩
    · obtain rfl : nd = i := by omega
      have HRES := Lib.hid (show FewP g l from ⟨by rw [← HN.out.2.1]; exact h5, by rw [← HN.out.1]; exact h3, by rw [← HN.out.2.2.2]; exact h4, fun i hi => HROW.out i (by rw [HN.out.2.1]; exact hi)⟩)
      clear hlt hi hgi
      go_wp2_with fail
      go_loopg [6] (ll + 1) (fun gk v6 wr => ∃ i : Nat, i ≤ ll ∧ gk + i = ll + 1 ∧ v6 = .int .i64 i ∧ w1 = wr)
      case atStart => exact ⟨0, by omega, by omega, rfl, rfl⟩
      case round =>
        obtain ⟨i, hi, hgi, rfl, rfl⟩ := hrel
        by_cases hlt : i < ll
        · have hiL : i < l.length := by have := HN.out.2.2.2; omega
          obtain ⟨b, off, rfl, _⟩ := HL.out.at'.head (by omega)
          have hrng := (HL.out.later HB1.out).at'.range hiL
          rw [show off + i * EQ.S = off + i * 6 from rfl] at hrng
          obtain ⟨x, hx⟩ : ∃ x, x = l[i] := ⟨_, rfl⟩
          rw [← hx] at hrng
          obtain ⟨pn, hpn⟩ : ∃ n, n = x.1.starts.length := ⟨_, rfl⟩
          obtain ⟨pm, hpm⟩ : ∃ n, n = x.1.failed.length := ⟨_, rfl⟩
          have x1 : w1.cell? ⟨b, off + i * 6 + 1, none⟩ = some (.slice x.2.1 x.1.starts.length x.2.2.1) := hrng 1 _ rfl
          have x2 : w1.cell? ⟨b, off + i * 6 + 2, none⟩ = some (.slice x.2.2.2.1 x.1.failed.length x.2.2.2.2) := hrng 2 _ rfl
          rw [← hpn] at x1
          rw [← hpm] at x2
          have i1 : (i : Int) < (ll : Int) := by omega
          have i0 : (0 : Int) ≤ (i : Int) := by omega
          clear hrng hx hpn hpm hiL
          rcases Nat.lt_or_ge 10 pn with h10 | h10
          · have e10 : decide ((10 : Int) < (pn : Int)) = true := decide_eq_true (by omega)
            go_wp2_with fail
            go_ret
            exact ⟨HB1.out, .inl rfl⟩
          have e10 : decide ((10 : Int) < (pn : Int)) = false := decide_eq_false (by omega)
          rcases Nat.lt_or_ge 10 pm with h11 | h11
          · have e11 : decide ((10 : Int) < (pm : Int)) = true := decide_eq_true (by omega)
            go_wp2_with fail
            go_ret
            exact ⟨HB1.out, .inl rfl⟩
          have e11 : decide ((10 : Int) < (pm : Int)) = false := decide_eq_false (by omega)
          go_wp2_with fail
          go_roundg (ll - i)
          case measure => omega
          case rel => exact ⟨i + 1, by omega, by omega, by go_num, rfl⟩
        · obtain rfl : ll = i := by omega
          go_wp2_with fail
          go_ret
          exact ⟨HB1.out, .inr ⟨rfl, HRES.out⟩⟩
set_option maxRecDepth 100000 in
set_option maxHeartbeats 4000000 in
theorem fewp_any (g : Gm) (sa da : Option Addr) (sc dc : Nat) (l : List PA) (a : Option Addr) (c : Nat) (w : World) (hG : GmAt w g sa da) (hL : LaP w a l) (hll : l.length < 9223372036854775808) (hdl : g.deps.length < 9223372036854775808) : Calls Try.prog 10 #[gmV g sa sc da dc, .slice a l.length c] w (RetFp g l w) := by
  have HR := Lib.hid (fun (wy : World) (hb : Below w.heap.size w wy) => rfewp_any g sa da sc dc l a c wy (hG.later hb) (hL.later hb) hll hdl)
  clear hG hL hll hdl
  go_enter Try.func10, Try.ntmps10
  go_wp2_with fail
  refine calls_named ?_
  intro wx hwx
  obtain ⟨hbx, _, hx, _⟩ := alloc1 w [.slice sa g.starts.length sc, .slice da g.deps.length dc, .int .i64 g.budget] 25 wx hwx
  have HBX := Lib.hid hbx
  clear hwx hx
  refine Calls.mono (HR.out wx hbx) ?_
  clear hbx
  rintro e w1 ⟨hb1, h⟩
  have HW1 := Lib.hid (HBX.out.trans (hb1.mono HBX.out.size))
  clear hb1
  rcases h with rfl | ⟨rfl, hf⟩
  · go_wp2_with fail
    go_ret
    exact ⟨HW1.out, .inl rfl⟩
  · have HF := Lib.hid hf
    clear hf
    go_wp2_with fail
    go_ret
    exact ⟨HW1.out, .inr ⟨rfl, HF.out⟩⟩
end Go.Proofs.Ytgjkcnfinjenoaa
namespace Go.Proofs.Ytgjkcnfinjenoaa
open Go.ChangeShapes Go.WideShapes Go.ChangeAt Go.RowKit Go.Joins Go.Deep

theorem PlanAt.lap {w : World} {a : Option Addr} {plan : List Pos} {pv : Nat → Value} (h : PlanAt w a plan pv) : ∃ l : List PA, l.map (·.1) = plan ∧ LaP w a l := by
  obtain ⟨l, h1, h2, h3⟩ := h.list
  refine ⟨l, h1, ⟨fun j u hu => ?_, h2⟩⟩
  have hj : 0 < plan.length := by
    rw [← h1, List.length_map]
    have h4 := (List.getElem?_eq_some_iff.1 hu).1
    have h5 : (l.flatMap psCs).length = l.length * 6 := psCs_len l
    have h4' : j < (l.flatMap psCs).length := h4
    omega
  obtain ⟨b, off, _, _, _, _, ha, _⟩ := h 0 hj
  exact ⟨b, off, ha, h3 b off ha j u hu⟩
section
variable {H : Type} {enc : TypeId × Value → H} {w : World} {held : Bool}
set_option maxRecDepth 100000 in
theorem open_ints_at {b0 : Nat} {r : Reach} {v : Value} {d : DataW H} {p : List MemPlace} (hv : Value.okWide Try.prog w r b0 22 v) (h : DataW.Trod enc Try.prog w 0 (fun _ => true) held 22 v d p) :
    ∃ (a : Option Addr) (c : Nat) (l : List Int), v = .slice a l.length c ∧ Ints w a l ∧ l.length < 9223372036854775808 ∧ l.length ≤ c := by
  obtain ⟨a, len, cap, rfl⟩ := okWide_slice Try.underlying22 hv
  obtain ⟨fuel, hf⟩ := h
  rcases open_ints Try.underlying22 Try.underlying3 (by kernel_rfl) hf with ⟨hcs, _⟩ | ⟨a, len, cap, zs, hcs, _, hl, hm, hz, _, hc, hw⟩
  · simp [Value.cells] at hcs
    obtain ⟨rfl, rfl, rfl⟩ := hcs
    exact ⟨none, 0, [], rfl, Ints.nil _ _, by simp, by simp⟩
  · simp [Value.cells] at hcs
    obtain ⟨rfl, rfl, rfl⟩ := hcs
    simp at hz
    unfold maxLen at hm
    have hlen : (zs.take len).length = len := by simp; omega
    refine ⟨some a, cap, zs.take len, by rw [hlen], fun j hj => ?_, by omega, by omega⟩
    rw [hlen] at hj
    obtain ⟨b, off, rfl, hc'⟩ := cells_at (n := zs.length) (by omega) hc
    refine ⟨b, off, rfl, ?_⟩
    rw [hc' j (by omega)]
    simp [ig, List.getD, hj]
set_option maxRecDepth 100000 in
theorem open_plan {b0 : Nat} {r : Reach} {v : Value} {d : DataW H} {p : List MemPlace} (hv : Value.okWide Try.prog w r b0 26 v) (h : DataW.Trod enc Try.prog w 0 (fun _ => true) held 26 v d p) :
    ∃ (l : List PA) (a : Option Addr) (c : Nat), v = .slice a l.length c ∧ LaP w a l ∧ InP l ∧ l.length < 9223372036854775808 := by
  obtain ⟨a, c, l, pv, rfl, hP, h1, _, _, h4⟩ := open_poss hv h
  obtain ⟨L, rfl, hL⟩ := hP.lap
  rw [List.length_map] at h1
  refine ⟨L, a, c, by rw [List.length_map], hL, fun x hx _ => ?_, h1⟩
  obtain ⟨h5, _⟩ := h4 x.1 (List.mem_map.2 ⟨x, hx, rfl⟩)
  exact ⟨h5.t, h5.b, h5.s⟩
end
theorem lostV_eq (g : Gm) (plan : List Pos) (F : List Int) : lostV g plan F = .tuple #[.int .i64 (lostN g plan F).1, .int .i64 (lostN g plan F).2] := by
  by_cases h : VG g ∧ AllowG g F
  · rw [lostN_yes h]
    unfold lostV
    rw [if_pos h]
    cases lostL g plan F (beginS g) 0 <;> rfl
  · rw [lostV_no h, lostN_no h]
end Go.Proofs.Ytgjkcnfinjenoaa
namespace Go.Proofs.Ytgjkcnfinjenoaa
open Go.RowKit Go.Maps

def exP : Gm := ⟨[2], [[0], [0]], 1⟩
theorem exP_vg : VG exP := by
  refine ⟨by show 1 ≤ 6; decide, by show 2 ≤ 12; decide, by show (0 : Int) ≤ 1; decide, by show (1 : Int) ≤ 3; decide, fun i hi => ?_, fun i hi => ?_⟩
  · have hi' : i < 1 := hi
    obtain rfl : i = 0 := by omega
    exact ⟨by decide, by decide⟩
  · have hi' : i < 2 := hi
    have e : dg exP i = [0] := by
      have : i = 0 ∨ i = 1 := by omega
      rcases this with rfl | rfl <;> rfl
    rw [e]
    intro j hj
    have hj' : j < 1 := hj
    obtain rfl : j = 0 := by omega
    exact ⟨by decide, by decide⟩
theorem exP_sm : SmG exP := by
  show szG exP 1 ≤ 200000
  decide
def exA : List Pos := [⟨1, [1], [false], 1, 0, 0⟩, ⟨1, [1], [true], 0, -1, 1⟩]
def exPl : List Pos := ⟨0, [2], [false], 1, 0, 1⟩ :: ⟨0, [2], [true], 0, -1, 2⟩ :: (exA ++ [⟨1, [2], [true], 0, -1, 1⟩])
theorem exP_fol : (followL exP exP.deps.length (beginS exP) []).map (posS exP) = ⟨0, [2], [false], 1, 0, 1⟩ :: (exA ++ ⟨0, [2], [true], 0, -1, 2⟩ :: [⟨1, [2], [true], 0, -1, 1⟩]) := by kernel_rfl
theorem sorted_permP : ∀ {P L : List Pos}, P.Perm L → P.Pairwise (fun x y => ¬ cmpP y x < 0) → L.Pairwise (fun x y => cmpP x y < 0) → P = L
  | [], [], _, _, _ => rfl
  | [], _ :: _, h, _, _ => by have := h.length_eq; simp at this
  | _ :: _, [], h, _, _ => by have := h.length_eq; simp at this
  | b :: P, a :: L, h, hp, hl => by
    have hab : a = b := by
      have h1 : b ∈ a :: L := h.mem_iff.1 (by simp)
      have h2 : a ∈ b :: P := h.mem_iff.2 (by simp)
      rcases List.mem_cons.1 h1 with e | h1
      · exact e.symm
      · rcases List.mem_cons.1 h2 with e | h2
        · exact e
        · have h3 := (List.pairwise_cons.1 hl).1 b h1
          have h4 := (List.pairwise_cons.1 hp).1 a h2
          exact absurd h3 h4
    subst hab
    rw [sorted_permP ((List.perm_cons a).1 h) (List.pairwise_cons.1 hp).2 (List.pairwise_cons.1 hl).2]
theorem exP_of {P : List Pos} (h : PlanOf exP P) : P = exPl := by
  have hp := h.p
  rw [exP_fol] at hp
  refine sorted_permP (hp.trans (List.Perm.cons _ List.perm_middle)) h.s ?_
  have hd : decide (exPl.Pairwise (fun x y => cmpP x y < 0)) = true := by kernel_rfl
  exact of_decide_eq_true hd
theorem exP_mem {F : List Int} (h : decide (F ∈ allG exP) = true) : VG exP ∧ AllowG exP F := ⟨exP_vg, (allow_iff exP_vg).2 (of_decide_eq_true h)⟩
theorem exP_1 : lostN exP exPl [-1, -1] = (0, 0) := lostN_ok (exP_mem (by kernel_rfl)) (by kernel_rfl)
theorem exP_2 : lostN exP exPl [0, -1] = (2, 0) := lostN_ok (exP_mem (by kernel_rfl)) (by kernel_rfl)
theorem exP_3 : lostN exP exPl [-1, 0] = (1, 0) := lostN_ok (exP_mem (by kernel_rfl)) (by kernel_rfl)
theorem exP_4 : lostN exP exPl [0, 0] = (0, 1) := lostN_no fun h => by
  have h1 := (allow_iff exP_vg).1 h.2
  have h2 : decide ([0, 0] ∈ allG exP) = false := by kernel_rfl
  exact of_decide_eq_false h2 h1
theorem exP_5 : lostN exP [] [-1, -1] = (0, 2) := by
  rw [lostN_yes (exP_mem (by kernel_rfl)), show lostL exP [] [-1, -1] (beginS exP) 0 = .error 2 from by kernel_rfl]
theorem exP_6 : worstV exP exPl = ([0, -1], 2, 0) := by
  rw [worstV_yes exP_vg, show gamesG exP exPl = ([([-1, -1], 0), ([-1, 0], 1), ([0, -1], 2)], none) from by kernel_rfl]
  rfl
theorem VG_few {g : Gm} (h : VG g) : GmFew g := ⟨by have := h.1; omega, by have := h.2.1; omega, fun i hi => by have := okDep_len (h.2.2.2.2.2 i hi); have := h.1; omega⟩
theorem exP_few : GmFew exP := VG_few exP_vg
theorem exP_in {l : List PA} (h : l.map (·.1) = exPl) : InP l := fun x hx _ => by
  have h1 : x.1 ∈ exPl := by rw [← h]; exact List.mem_map.2 ⟨x, hx, rfl⟩
  have h2 : ∀ p ∈ exPl, p.turn ≤ 2 ∧ 0 ≤ p.turn ∧ p.budget ≤ 2 ∧ 0 ≤ p.budget ∧ ∀ y ∈ p.starts, 0 ≤ y ∧ y ≤ 2 := by decide
  obtain ⟨a1, a2, a3, a4, a5⟩ := h2 _ h1
  refine ⟨⟨?_, ?_⟩, ⟨?_, ?_⟩, fun i => ?_⟩
  · show _ ≤ x.1.turn; omega
  · show x.1.turn < _; omega
  · show _ ≤ x.1.budget; omega
  · show x.1.budget < _; omega
  · show inIG (ig x.1.starts i)
    by_cases hi : i < x.1.starts.length
    · have := a5 _ (ig_mem hi)
      exact ⟨by omega, by omega⟩
    · rw [ig_out (by omega)]
      exact ⟨by omega, by omega⟩
theorem hlost {plan : List Pos} (F : List Int) (x e : Int) (hx : lostN exP plan F = (x, e)) (hF : F.length = 2) (n : Nat) (sa da : Option Addr) (sc dc : Nat) (l : List PA) (a : Option Addr) (c : Nat) (fa : Option Addr) (fc : Nat) (w : World) (hG : GmAt w exP sa da)
    (hL : LaP w a l) (hI : InP l) (hp : l.map (·.1) = plan) (hn : l.length = n) (hn5 : n ≤ 5) (hFi : Ints w fa F) :
    Calls Try.prog 11 #[.agg #[.slice sa 1 sc, .slice da 2 dc, .int .i64 1], .slice a n c, .slice fa 2 fc] w (RetB (.tuple #[.int .i64 x, .int .i64 e]) w) := by
  have h := lost_any exP sa da sc dc l a c F fa fc w hG exP_few hL hI (by omega) hFi (by omega)
  rw [lostV_eq, hp, hx, hF, hn] at h
  exact h
theorem hworst (n : Nat) (sa da : Option Addr) (sc dc : Nat) (l : List PA) (a : Option Addr) (c : Nat) (w : World) (hG : GmAt w exP sa da) (hL : LaP w a l) (hI : InP l) (hp : l.map (·.1) = exPl) (hn : l.length = n) (hn5 : n ≤ 5) :
    Calls Try.prog 13 #[.agg #[.slice sa 1 sc, .slice da 2 dc, .int .i64 1], .slice a n c] w (fun e w' => ∃ b d, e = .returned (.tuple #[.slice b 2 d, .int .i64 2, .int .i64 0]) ∧ Ints w' b [0, -1] ∧ Below w.heap.size w w') := by
  have h := worst_any exP sa da sc dc l a c w hG exP_few hL hI (by omega)
  rw [hp, hn] at h
  refine Calls.mono h ?_
  rintro e w' ⟨b, d, rfl, h1, h2⟩
  rw [exP_6] at h1 ⊢
  exact ⟨b, d, rfl, h1.ints, h2⟩
theorem two_at {w : World} {b : Nat} {x y : Int} (h : BoxAt w b [.int .i64 x, .int .i64 y]) : Ints w (some ⟨b, 0, none⟩) [x, y] := fun j hj => by
  have : j = 0 ∨ j = 1 := by simp at hj; omega
  rcases this with rfl | rfl
  · exact ⟨_, 0, rfl, (h 0 _ rfl).1⟩
  · exact ⟨_, 0, rfl, (h 1 _ rfl).1⟩
theorem one_at {w : World} {b : Nat} {x : Int} (h : BoxAt w b [.int .i64 x]) : Ints w (some ⟨b, 0, none⟩) [x] := fun j hj => by
  obtain rfl : j = 0 := by simp at hj; omega
  exact ⟨_, 0, rfl, (h 0 _ rfl).1⟩
theorem allocEx (w w1 : World) (h : w1 = ((((w.alloc (.cells #[.int .i64 2] 3)).alloc (.cells #[.int .i64 0] 3)).alloc (.cells #[.int .i64 0] 3)).alloc (.cells #[.slice (some ⟨w.heap.size + 1, 0, none⟩) 1 1, .slice (some ⟨w.heap.size + 1 + 1, 0, none⟩) 1 1] 22)).alloc (.cells #[.slice (some ⟨w.heap.size, 0, none⟩) 1 1, .slice (some ⟨w.heap.size + 1 + 1 + 1, 0, none⟩) 2 2, .int .i64 1] 25)) :
    Below w.heap.size w w1 ∧ GmAt w1 exP (some ⟨w.heap.size, 0, none⟩) (some ⟨w.heap.size + 1 + 1 + 1, 0, none⟩) ∧ BoxAt w1 (w.heap.size + 1 + 1 + 1 + 1) [.slice (some ⟨w.heap.size, 0, none⟩) 1 1, .slice (some ⟨w.heap.size + 1 + 1 + 1, 0, none⟩) 2 2, .int .i64 1] := by
  obtain ⟨x, hx⟩ : ∃ x, x = (((w.alloc (.cells #[.int .i64 2] 3)).alloc (.cells #[.int .i64 0] 3)).alloc (.cells #[.int .i64 0] 3)).alloc (.cells #[.slice (some ⟨w.heap.size + 1, 0, none⟩) 1 1, .slice (some ⟨w.heap.size + 1 + 1, 0, none⟩) 1 1] 22) := ⟨_, rfl⟩
  rw [← hx] at h
  obtain ⟨p1, p2, p3, p4, p5, p6⟩ := alloc4 w [.int .i64 2] [.int .i64 0] [.int .i64 0] [.slice (some ⟨w.heap.size + 1, 0, none⟩) 1 1, .slice (some ⟨w.heap.size + 1 + 1, 0, none⟩) 1 1] _ _ _ _ x hx
  obtain ⟨q1, q2, q3, _⟩ := alloc1 x [.slice (some ⟨w.heap.size, 0, none⟩) 1 1, .slice (some ⟨w.heap.size + 1 + 1 + 1, 0, none⟩) 2 2, .int .i64 1] 25 w1 h
  rw [p2] at q2 q3
  refine ⟨p1.trans (q1.mono (by omega)), ⟨one_at (p3.later q1), fun i hi => ?_⟩, q3⟩
  have hi' : i < 2 := hi
  have : i = 0 ∨ i = 1 := by omega
  rcases this with rfl | rfl
  · exact ⟨_, 0, _, 1, rfl, ((p6.later q1) 0 _ rfl).1, one_at (p4.later q1)⟩
  · exact ⟨_, 0, _, 1, rfl, ((p6.later q1) 1 _ rfl).1, one_at (p5.later q1)⟩
set_option maxRecDepth 100000 in
set_option maxHeartbeats 8000000 in
theorem headp_any (w : World) : Calls Try.prog 9 #[] w (RetB (.bool true) w) := by
  have hP := Lib.hid (fun (wy : World) (sa da : Option Addr) (sc dc : Nat) (h : GmAt wy exP sa da) => plan_any exP sa da sc dc wy h exP_few)
  go_enter Try.func9, Try.ntmps9
  go_upto_region 2 with fail
  refine wp_named ?_
  intro w1 hw1
  obtain ⟨hb1, hg1, hx1⟩ := allocEx w w1 hw1
  have HB1 := Lib.hid hb1
  have HG1 := Lib.hid hg1
  have HX1 := Lib.hid hx1
  have c0 := (hx1 0 _ rfl).1
  have c1 := (hx1 1 _ rfl).1
  have c2 := (hx1 2 _ rfl).1
  clear hw1 hb1 hg1 hx1
  go_wp2_with fail
  refine Calls.mono (hP.out w1 _ _ 1 2 HG1.out) ?_
  rintro e w2 ⟨hb2, ⟨h1, _⟩ | ⟨_, h2, _⟩ | ⟨_, _, a, c, l, rfl, hpo, hat, hps, hlc, hcm, _⟩⟩
  · exact absurd exP_vg h1
  · exact absurd exP_sm h2
  have hl := exP_of hpo
  have hlen : l.length = 5 := by have := congrArg List.length hl; simpa [exPl, exA] using this
  have HBW := Lib.hid (HB1.out.trans (hb2.mono HB1.out.size))
  have HG2 := Lib.hid (HG1.out.later hb2)
  have HX2 := Lib.hid (HX1.out.later hb2)
  have HLP := Lib.hid (show LaP w2 a l from ⟨hat, hps⟩)
  have HL := Lib.hid hl
  have HLN := Lib.hid hlen
  have HINP := Lib.hid (exP_in hl)
  have HB2 := Lib.hid (Below.refl w2.heap.size w2)
  have d2 := HX1.out.later hb2
  rw [hlen]
  clear hb2 hpo hat hps hlc hcm hl hlen c0 c1 c2
  have c0 := (d2 0 _ rfl).1
  have c1 := (d2 1 _ rfl).1
  have c2 := (d2 2 _ rfl).1
  clear d2
  go_wp2_with fail
  refine calls_named ?_
  intro v3 hv3
  obtain ⟨hq3, _, hx3, _⟩ := alloc1 w2 [.int .i64 (-1), .int .i64 (-1)] 3 v3 hv3
  have HQ3 := Lib.hid (HB2.out.trans (hq3.mono HB2.out.size))
  have HI3 := Lib.hid (two_at hx3)
  clear hv3 hq3 hx3
  refine Calls.mono (hlost (plan := exPl) [-1, -1] _ _ exP_1 rfl 5 _ _ _ _ l _ _ _ _ v3 (HG2.out.later HQ3.out) (HLP.out.later HQ3.out) HINP.out HL.out HLN.out (by decide) HI3.out) ?_
  rintro e w3 ⟨rfl, hb3⟩
  have HB3 := Lib.hid (HQ3.out.trans (hb3.mono HQ3.out.size))
  have d3 := HX2.out.later HB3.out
  clear hb3 c0 c1 c2
  have c0 := (d3 0 _ rfl).1
  have c1 := (d3 1 _ rfl).1
  have c2 := (d3 2 _ rfl).1
  clear d3
  go_wp2_with fail
  refine calls_named ?_
  intro v4 hv4
  obtain ⟨hq4, _, hx4, _⟩ := alloc1 w3 [.int .i64 (0), .int .i64 (-1)] 3 v4 hv4
  have HQ4 := Lib.hid (HB3.out.trans (hq4.mono HB3.out.size))
  have HI4 := Lib.hid (two_at hx4)
  clear hv4 hq4 hx4
  refine Calls.mono (hlost (plan := exPl) [0, -1] _ _ exP_2 rfl 5 _ _ _ _ l _ _ _ _ v4 (HG2.out.later HQ4.out) (HLP.out.later HQ4.out) HINP.out HL.out HLN.out (by decide) HI4.out) ?_
  rintro e w4 ⟨rfl, hb4⟩
  have HB4 := Lib.hid (HQ4.out.trans (hb4.mono HQ4.out.size))
  have d4 := HX2.out.later HB4.out
  clear hb4 c0 c1 c2
  have c0 := (d4 0 _ rfl).1
  have c1 := (d4 1 _ rfl).1
  have c2 := (d4 2 _ rfl).1
  clear d4
  go_wp2_with fail
  refine calls_named ?_
  intro v5 hv5
  obtain ⟨hq5, _, hx5, _⟩ := alloc1 w4 [.int .i64 (-1), .int .i64 (0)] 3 v5 hv5
  have HQ5 := Lib.hid (HB4.out.trans (hq5.mono HB4.out.size))
  have HI5 := Lib.hid (two_at hx5)
  clear hv5 hq5 hx5
  refine Calls.mono (hlost (plan := exPl) [-1, 0] _ _ exP_3 rfl 5 _ _ _ _ l _ _ _ _ v5 (HG2.out.later HQ5.out) (HLP.out.later HQ5.out) HINP.out HL.out HLN.out (by decide) HI5.out) ?_
  rintro e w5 ⟨rfl, hb5⟩
  have HB5 := Lib.hid (HQ5.out.trans (hb5.mono HQ5.out.size))
  have d5 := HX2.out.later HB5.out
  clear hb5 c0 c1 c2
  have c0 := (d5 0 _ rfl).1
  have c1 := (d5 1 _ rfl).1
  have c2 := (d5 2 _ rfl).1
  clear d5
  go_wp2_with fail
  refine calls_named ?_
  intro v6 hv6
  obtain ⟨hq6, _, hx6, _⟩ := alloc1 w5 [.int .i64 (0), .int .i64 (0)] 3 v6 hv6
  have HQ6 := Lib.hid (HB5.out.trans (hq6.mono HB5.out.size))
  have HI6 := Lib.hid (two_at hx6)
  clear hv6 hq6 hx6
  refine Calls.mono (hlost (plan := exPl) [0, 0] _ _ exP_4 rfl 5 _ _ _ _ l _ _ _ _ v6 (HG2.out.later HQ6.out) (HLP.out.later HQ6.out) HINP.out HL.out HLN.out (by decide) HI6.out) ?_
  rintro e w6 ⟨rfl, hb6⟩
  have HB6 := Lib.hid (HQ6.out.trans (hb6.mono HQ6.out.size))
  have d6 := HX2.out.later HB6.out
  clear hb6 c0 c1 c2
  have c0 := (d6 0 _ rfl).1
  have c1 := (d6 1 _ rfl).1
  have c2 := (d6 2 _ rfl).1
  clear d6
  go_wp2_with fail
  refine calls_named ?_
  intro v7 hv7
  obtain ⟨hq7, _, hx7, _⟩ := alloc1 w6 [.int .i64 (-1), .int .i64 (-1)] 3 v7 hv7
  have HQ7 := Lib.hid (HB6.out.trans (hq7.mono HB6.out.size))
  have HI7 := Lib.hid (two_at hx7)
  clear hv7 hq7 hx7
  refine Calls.mono (hlost (plan := []) [-1, -1] _ _ exP_5 rfl 0 _ _ _ _ [] _ _ _ _ v7 (HG2.out.later HQ7.out) ⟨El.At.nil, fun _ h => by cases h⟩ (fun _ h => by cases h) rfl rfl (by decide) HI7.out) ?_
  rintro e w7 ⟨rfl, hb7⟩
  have HB7 := Lib.hid (HQ7.out.trans (hb7.mono HQ7.out.size))
  have d7 := HX2.out.later HB7.out
  clear hb7 c0 c1 c2
  have c0 := (d7 0 _ rfl).1
  have c1 := (d7 1 _ rfl).1
  have c2 := (d7 2 _ rfl).1
  clear d7
  go_wp2_with fail
  refine Calls.mono (hworst 5 _ _ _ _ l a c w7 (HG2.out.later HB7.out) (HLP.out.later HB7.out) HINP.out HL.out HLN.out (by decide)) ?_
  rintro e w8 ⟨b, d, rfl, hI8, hb8⟩
  have HI8 := Lib.hid hI8
  have HB8 := Lib.hid (HB7.out.trans (hb8.mono HB7.out.size))
  clear hI8 hb8 c0 c1 c2
  go_wp2_with fail
  refine calls_named ?_
  intro v9 hv9
  obtain ⟨hq9, _, hx9, _⟩ := alloc1 w8 [.int .i64 0, .int .i64 (-1)] 3 v9 hv9
  have HQ9 := Lib.hid (HB8.out.trans (hq9.mono HB8.out.size))
  have hri := rints_any [0, -1] [0, -1] b (some ⟨w8.heap.size, 0, none⟩) d 2 v9 (HI8.out.later hq9) (two_at hx9) (by decide)
  rw [decide_eq_true rfl] at hri
  clear hv9 hq9 hx9
  refine Calls.mono hri ?_
  rintro e w9 ⟨rfl, hb9⟩
  have HB9 := Lib.hid (HBW.out.trans ((HQ9.out.trans (hb9.mono HQ9.out.size)).mono HBW.out.size))
  clear hb9 hri
  go_wp2_with fail
  go_ret
  exact retB rfl HB9.out
end Go.Proofs.Ytgjkcnfinjenoaa
