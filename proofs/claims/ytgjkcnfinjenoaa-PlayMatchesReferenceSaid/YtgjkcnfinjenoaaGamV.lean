/- Package game: what a game is worth, as a plain predicate of departures, starts and budget. -/
import Derived.Test.YtgjkcnfinjenoaaGamH
namespace Go.Proofs.Ytgjkcnfinjenoaa

def dec (s : List Int) (v : Int) : List Int := s.set v.toNat (ig s v.toNat - 1)
def mvs (s : List Int) (b : Int) : List (List Int × Int) := (s, b) :: if 0 < b then (List.range s.length).map (fun i => (s.set i 0, b - 1)) else []
/-- at most x of the departures are lost -/
def LeV : List (List Int) → List Int → Int → Int → Prop
  | [], _, _, x => 0 ≤ x
  | d :: ds, s, b, x => ∀ m ∈ mvs s b, LeV ds m.1 m.2 (x - 1) ∨ ∃ v ∈ d, 0 < ig m.1 v.toNat ∧ LeV ds (dec m.1 v) m.2 x
theorem mem_mvs {s : List Int} {b : Int} {m : List Int × Int} : m ∈ mvs s b ↔ m = (s, b) ∨ 0 < b ∧ ∃ i, i < s.length ∧ m = (s.set i 0, b - 1) := by
  unfold mvs
  rw [List.mem_cons]
  split
  · rename_i h
    rw [List.mem_map]
    constructor
    · rintro (h1 | ⟨i, hi, rfl⟩)
      · exact .inl h1
      · exact .inr ⟨h, i, by simpa using hi, rfl⟩
    · rintro (h1 | ⟨_, i, hi, rfl⟩)
      · exact .inl h1
      · exact .inr ⟨i, by simpa using hi, rfl⟩
  · rename_i h
    constructor
    · rintro (h1 | h1)
      · exact .inl h1
      · simp at h1
    · rintro (h1 | ⟨h1, _⟩)
      · exact .inl h1
      · exact absurd h1 h
theorem dec_len (s : List Int) (v : Int) : (dec s v).length = s.length := List.length_set
theorem ig_dec (s : List Int) (v : Int) (j : Nat) : ig (dec s v) j = if v.toNat = j ∧ v.toNat < s.length then ig s v.toNat - 1 else ig s j := ig_set _ _ _ _
theorem LeV.nonneg : ∀ {ds : List (List Int)} {s : List Int} {b x : Int}, LeV ds s b x → 0 ≤ x
  | [], _, _, _, h => h
  | d :: ds, s, b, x, h => by
    rcases h (s, b) (mem_mvs.2 (.inl rfl)) with h1 | ⟨v, _, _, h1⟩
    · have := LeV.nonneg h1; omega
    · exact LeV.nonneg h1
theorem LeV.up : ∀ {ds : List (List Int)} {s : List Int} {b x y : Int}, LeV ds s b x → x ≤ y → LeV ds s b y
  | [], _, _, x, y, h, hy => by unfold LeV at *; omega
  | d :: ds, s, b, x, y, h, hy => fun m hm => by
    rcases h m hm with h1 | ⟨v, h1, h2, h3⟩
    · exact .inl (h1.up (by omega))
    · exact .inr ⟨v, h1, h2, h3.up hy⟩
theorem LeV.lessB : ∀ {ds : List (List Int)} {s : List Int} {b c x : Int}, LeV ds s b x → c ≤ b → LeV ds s c x
  | [], _, _, _, _, h, _ => h
  | d :: ds, s, b, c, x, h, hc => fun m hm => by
    rcases mem_mvs.1 hm with rfl | ⟨h0, i, hi, rfl⟩
    · rcases h (s, b) (mem_mvs.2 (.inl rfl)) with h1 | ⟨v, h1, h2, h3⟩
      · exact .inl (h1.lessB hc)
      · exact .inr ⟨v, h1, h2, h3.lessB hc⟩
    · rcases h (s.set i 0, b - 1) (mem_mvs.2 (.inr ⟨by omega, i, hi, rfl⟩)) with h1 | ⟨v, h1, h2, h3⟩
      · exact .inl (h1.lessB (by show c - 1 ≤ b - 1; omega))
      · exact .inr ⟨v, h1, h2, h3.lessB (by show c - 1 ≤ b - 1; omega)⟩
/-- pointwise no more -/
def LeS (s t : List Int) : Prop := s.length = t.length ∧ ∀ i, ig s i ≤ ig t i
theorem LeS.set {s t : List Int} (h : LeS s t) (i : Nat) {x y : Int} (hx : x ≤ y) : LeS (s.set i x) (t.set i y) := by
  refine ⟨by simpa using h.1, fun j => ?_⟩
  rw [ig_set, ig_set, ← h.1]
  split
  · exact hx
  · exact h.2 j
theorem LeS.dec {s t : List Int} (h : LeS s t) (v : Int) : LeS (dec s v) (dec t v) := h.set _ (by have := h.2 v.toNat; omega)
theorem LeV.moreS : ∀ {ds : List (List Int)} {s t : List Int} {b x : Int}, LeV ds s b x → LeS s t → LeV ds t b x
  | [], _, _, _, _, h, _ => h
  | d :: ds, s, t, b, x, h, hs => fun m hm => by
    rcases mem_mvs.1 hm with rfl | ⟨h0, i, hi, rfl⟩
    · rcases h (s, b) (mem_mvs.2 (.inl rfl)) with h1 | ⟨v, h1, h2, h3⟩
      · exact .inl (h1.moreS hs)
      · exact .inr ⟨v, h1, by have := hs.2 v.toNat; show 0 < ig t v.toNat; simp only at h2; omega, h3.moreS (hs.dec v)⟩
    · have hs' : LeS (s.set i 0) (t.set i 0) := hs.set i (Int.le_refl _)
      rcases h (s.set i 0, b - 1) (mem_mvs.2 (.inr ⟨h0, i, by have := hs.1; omega, rfl⟩)) with h1 | ⟨v, h1, h2, h3⟩
      · exact .inl (h1.moreS hs')
      · exact .inr ⟨v, h1, by have := hs'.2 v.toNat; show 0 < ig (t.set i 0) v.toNat; simp only at h2; omega, h3.moreS (hs'.dec v)⟩
/-- departures that allow more -/
inductive LeD : List (List Int) → List (List Int) → Prop
  | nil : LeD [] []
  | cons {d e : List Int} {ds es : List (List Int)} : (∀ v ∈ d, v ∈ e) → LeD ds es → LeD (d :: ds) (e :: es)
theorem LeV.moreD : ∀ {ds es : List (List Int)} {s : List Int} {b x : Int}, LeV ds s b x → LeD ds es → LeV es s b x
  | [], _, _, _, _, h, hd => by cases hd; exact h
  | d :: ds, _, s, b, x, h, hd => by
    cases hd with
    | cons h0 hd =>
      intro m hm
      rcases h m hm with h1 | ⟨v, h1, h2, h3⟩
      · exact .inl (h1.moreD hd)
      · exact .inr ⟨v, h0 v h1, h2, h3.moreD hd⟩
theorem LeV.short : ∀ {ds : List (List Int)} {d : List Int} {s : List Int} {b x : Int}, LeV (ds ++ [d]) s b x → LeV ds s b x
  | [], d, s, b, x, h => h.nonneg
  | e :: ds, d, s, b, x, h => fun m hm => by
    rcases h m hm with h1 | ⟨v, h1, h2, h3⟩
    · exact .inl (LeV.short h1)
    · exact .inr ⟨v, h1, h2, LeV.short h3⟩
theorem LeV.long : ∀ {ds : List (List Int)} {d : List Int} {s : List Int} {b x : Int}, LeV ds s b x → LeV (ds ++ [d]) s b (x + 1)
  | [], d, s, b, x, h => fun m hm => .inl (by unfold LeV at *; omega)
  | e :: ds, d, s, b, x, h => fun m hm => by
    rcases h m hm with h1 | ⟨v, h1, h2, h3⟩
    · exact .inl (by have := LeV.long (d := d) h1; rwa [show x - 1 + 1 = x + 1 - 1 by omega] at this)
    · exact .inr ⟨v, h1, h2, LeV.long h3⟩
theorem LeV.all : ∀ (ds : List (List Int)) (s : List Int) (b : Int), LeV ds s b ds.length
  | [], _, _ => Int.le_refl _
  | d :: ds, s, b => fun m _ => .inl (by have := LeV.all ds m.1 m.2; rwa [show ((d :: ds).length : Int) - 1 = ds.length by simp] )
/-- departures that allow no vehicle with starts -/
def noneD (s : List Int) (d : List Int) : Bool := d.all fun v => decide (ig s v.toNat ≤ 0)
def cntN (s : List Int) (ds : List (List Int)) : Nat := ds.countP (noneD s)
theorem noneD_mono {s t : List Int} (h : ∀ i, ig s i ≤ ig t i) {d : List Int} (hd : noneD t d = true) : noneD s d = true := by
  unfold noneD at *
  rw [List.all_eq_true] at *
  intro v hv
  have := hd v hv
  rw [decide_eq_true_eq] at *
  have := h v.toNat
  omega
theorem cntN_mono {s t : List Int} (h : ∀ i, ig s i ≤ ig t i) (ds : List (List Int)) : cntN t ds ≤ cntN s ds := List.countP_mono_left fun _ _ hd => noneD_mono h hd
theorem ig_dec_le (s : List Int) (v : Int) (i : Nat) : ig (dec s v) i ≤ ig s i := by
  rw [ig_dec]
  split
  · rename_i h
    rw [← h.1]
    omega
  · exact Int.le_refl _
theorem LeV.least : ∀ {ds : List (List Int)} {s : List Int} {b x : Int}, LeV ds s b x → (cntN s ds : Int) ≤ x
  | [], _, _, _, h => h
  | d :: ds, s, b, x, h => by
    unfold cntN
    rw [List.countP_cons]
    rcases h (s, b) (mem_mvs.2 (.inl rfl)) with h1 | ⟨v, h1, h2, h3⟩
    · have h2 : ((ds.countP (noneD s) : Nat) : Int) ≤ x - 1 := h1.least
      split <;> (simp only [Int.natCast_add, Int.cast_ofNat_Int]; omega)
    · have h4 := h3.least
      have h5 := cntN_mono (ig_dec_le s v) ds
      have h6 : noneD s d = false := by
        cases e : noneD s d with
        | false => rfl
        | true =>
          unfold noneD at e
          rw [List.all_eq_true] at e
          have := e v h1
          rw [decide_eq_true_eq] at this
          simp only at h2
          omega
      rw [h6]
      unfold cntN at h4 h5
      simp only at h4
      simp
      omega
def sumI (s : List Int) : Int := s.foldr (· + ·) 0
theorem sum_set : ∀ {s : List Int} {i : Nat} {x : Int}, i < s.length → sumI (s.set i x) = sumI s - ig s i + x
  | a :: s, 0, x, _ => by simp [sumI, ig]; omega
  | a :: s, i + 1, x, h => by
    have := sum_set (s := s) (i := i) (x := x) (by simpa using h)
    have e : ig (a :: s) (i + 1) = ig s i := by simp [ig]
    rw [e]
    show a + sumI (s.set i x) = a + sumI s - ig s i + x
    omega
theorem sum_nonneg : ∀ {s : List Int}, (∀ i, 0 ≤ ig s i) → 0 ≤ sumI s
  | [], _ => Int.le_refl _
  | a :: s, h => by
    have h0 := h 0
    have h1 := sum_nonneg (s := s) fun i => by have := h (i + 1); simpa [ig] using this
    have e : ig (a :: s) 0 = a := by simp [ig]
    rw [e] at h0
    show 0 ≤ a + sumI s
    omega
theorem LeV.sum : ∀ {ds : List (List Int)} {s : List Int} {b x : Int}, LeV ds s b x → (∀ i, 0 ≤ ig s i) → (ds.length : Int) - sumI s ≤ x
  | [], s, _, x, h, hs => by have := sum_nonneg hs; unfold LeV at h; simp; omega
  | d :: ds, s, b, x, h, hs => by
    rw [List.length_cons]
    rcases h (s, b) (mem_mvs.2 (.inl rfl)) with h1 | ⟨v, h1, h2, h3⟩
    · have h4 : (ds.length : Int) - sumI s ≤ x - 1 := h1.sum hs
      omega
    · have h2' : 0 < ig s v.toNat := h2
      have hv : v.toNat < s.length := Nat.lt_of_not_le fun hn => by rw [ig_out hn] at h2'; omega
      have e : sumI (dec s v) = sumI s - 1 := by unfold dec; rw [sum_set hv]; omega
      have h4 : (ds.length : Int) - sumI (dec s v) ≤ x := h3.sum fun i => by
        show 0 ≤ ig (dec s v) i
        rw [ig_dec]
        split
        · omega
        · exact hs i
      omega
/-- the first vehicle that may go is taken -/
def firstV (s : List Int) (d : List Int) : Option Int := d.find? fun v => decide (0 < ig s v.toNat)
def greedyL : List (List Int) → List Int → Int
  | [], _ => 0
  | d :: ds, s => match firstV s d with
    | some v => greedyL ds (dec s v)
    | none => 1 + greedyL ds s
theorem LeV.greedy : ∀ (ds : List (List Int)) (s : List Int), LeV ds s 0 (greedyL ds s)
  | [], _ => Int.le_refl _
  | d :: ds, s => fun m hm => by
    rcases mem_mvs.1 hm with rfl | ⟨h0, _⟩
    · cases hf : firstV s d with
      | none =>
        refine .inl ?_
        have := LeV.greedy ds s
        have e : greedyL (d :: ds) s = 1 + greedyL ds s := by show (match firstV s d with | some v => _ | none => _) = _; rw [hf]
        rw [e]
        rwa [show 1 + greedyL ds s - 1 = greedyL ds s by omega]
      | some v =>
        refine .inr ⟨v, List.mem_of_find?_eq_some hf, by have := List.find?_some hf; simpa using this, ?_⟩
        have e : greedyL (d :: ds) s = greedyL ds (dec s v) := by show (match firstV s d with | some v => _ | none => _) = _; rw [hf]
        rw [e]
        exact LeV.greedy ds (dec s v)
    · omega
/-! ### the value of a state -/
def eff (s : St) : List Int := (List.range s.starts.length).map fun i => if bg s.failed i then 0 else ig s.starts i
theorem eff_len (s : St) : (eff s).length = s.starts.length := by simp [eff]
theorem ig_eff (s : St) (i : Nat) : ig (eff s) i = if bg s.failed i then 0 else ig s.starts i := by
  by_cases h : i < s.starts.length
  · rw [ig_lt (by rw [eff_len]; exact h)]
    simp [eff]
  · rw [ig_out (by rw [eff_len]; omega), ig_out (l := s.starts) (by omega)]
    split <;> rfl
theorem ig_ext {s t : List Int} (hl : s.length = t.length) (h : ∀ i, ig s i = ig t i) : s = t := by
  refine List.ext_getElem hl fun i h1 h2 => ?_
  rw [← ig_lt h1, ← ig_lt h2]
  exact h i
theorem maxL_le {l : List Int} {x : Int} : maxL l ≤ x ↔ 0 ≤ x ∧ ∀ y ∈ l, y ≤ x := by
  unfold maxL
  suffices hh : ∀ (l : List Int) (a : Int), l.foldl max a ≤ x ↔ a ≤ x ∧ ∀ y ∈ l, y ≤ x from hh l 0
  intro l
  induction l with
  | nil => intro a; simp
  | cons y l ih =>
    intro a
    rw [List.foldl_cons, ih]
    simp only [List.mem_cons, forall_eq_or_imp]
    constructor
    · rintro ⟨h1, h2⟩
      exact ⟨by omega, by omega, h2⟩
    · rintro ⟨h1, h2, h3⟩
      exact ⟨by omega, h3⟩
theorem bvF_le {g : Gm} {w : St → Int} {x : St} {y : Int} : (bvF g w x).2 ≤ y ↔ 1 + w (afterS x (-1)) ≤ y ∨ ∃ v ∈ dg g x.turn.toNat, (bg x.failed v.toNat = false ∧ 0 < ig x.starts v.toNat) ∧ w (afterS x v) ≤ y := by
  unfold bvF
  suffices hh : ∀ (l : List Int) (o : Int × Int), (l.foldl (considerF w x) o).2 ≤ y ↔ o.2 ≤ y ∨ ∃ v ∈ l, (bg x.failed v.toNat = false ∧ 0 < ig x.starts v.toNat) ∧ w (afterS x v) ≤ y from hh _ _
  intro l
  induction l with
  | nil => intro o; simp
  | cons v l ih =>
    intro o
    rw [List.foldl_cons, ih]
    simp only [List.mem_cons, exists_eq_or_imp]
    unfold considerF
    split
    · rename_i h
      split
      · rename_i h2
        constructor
        · rintro (h3 | h3)
          · exact .inr (.inl ⟨h, h3⟩)
          · exact .inr (.inr h3)
        · rintro (h3 | h3 | h3)
          · exact .inl (by show w (afterS x v) ≤ y; omega)
          · exact .inl h3.2
          · exact .inr h3
      · rename_i h2
        constructor
        · rintro (h3 | h3)
          · exact .inl h3
          · exact .inr (.inr h3)
        · rintro (h3 | h3 | h3)
          · exact .inl h3
          · exact .inl (by have := h3.2; omega)
          · exact .inr h3
    · rename_i h
      constructor
      · rintro (h3 | h3)
        · exact .inl h3
        · exact .inr (.inr h3)
      · rintro (h3 | h3 | h3)
        · exact .inl h3
        · exact absurd h3.1 h
        · exact .inr h3
theorem eff_after {s : St} {v : Int} (hv : bg s.failed v.toNat = false) (h0 : 0 ≤ v) : eff (afterS s v) = dec (eff s) v := by
  have e1 : (afterS s v).starts = s.starts.set v.toNat (ig s.starts v.toNat - 1) := by show (if 0 ≤ v then _ else _) = _; rw [if_pos h0]
  have e2 : (afterS s v).failed = s.failed := rfl
  refine ig_ext (by rw [eff_len, dec_len, eff_len, e1, List.length_set]) fun i => ?_
  rw [ig_eff, ig_dec, eff_len, ig_eff, ig_eff, e1, e2, ig_set, hv]
  by_cases h : v.toNat = i ∧ v.toNat < s.starts.length
  · rw [if_pos h, if_pos h, ← h.1, hv]
    rfl
  · rw [if_neg h, if_neg h]
theorem eff_none (s : St) : eff (afterS s (-1)) = eff s := rfl
theorem eff_hit {s : St} {v : Nat} (hv : v < s.failed.length) (hl : s.failed.length = s.starts.length) : eff (hit s v) = (eff s).set v 0 := by
  refine ig_ext (by rw [List.length_set, eff_len, eff_len]; rfl) fun i => ?_
  rw [ig_eff, ig_set, eff_len, ig_eff]
  have e : bg (hit s v).failed i = if v = i then true else bg s.failed i := bg_setT hv i
  rw [e]
  by_cases h : v = i
  · rw [if_pos h, if_pos rfl, if_pos ⟨h, by omega⟩]
  · rw [if_neg h, if_neg (c := v = i ∧ _) (fun h' => h h'.1)]
    rfl
theorem set_same {s : List Int} {i : Nat} (h : ig s i = 0) : s.set i 0 = s := by
  refine ig_ext (by simp) fun j => ?_
  rw [ig_set]
  split
  · rename_i h'
    rw [← h'.1, h]
  · rfl
theorem WG_LeV {g : Gm} (hv : VG g) : ∀ (k : Nat) (s : St) (x : Int), Dom g s → s.turn + k = g.deps.length → (WG g s ≤ x ↔ LeV (g.deps.drop s.turn.toNat) (eff s) s.budget x)
  | 0, s, x, hs, hk => by
    rw [WG_end (by omega), List.drop_eq_nil_of_le (by have := hs.t0; omega)]
    exact Iff.rfl
  | k + 1, s, x, hs, hk => by
    have h0 := hs.t0
    have hlt : s.turn.toNat < g.deps.length := by omega
    rw [WG_on hs.t0 (by omega), List.drop_eq_getElem_cons hlt, maxL_le]
    have hd : g.deps[s.turn.toNat] = dg g s.turn.toNat := by unfold dg; rw [List.getD_eq_getElem?_getD, List.getElem?_eq_getElem hlt]; rfl
    rw [hd]
    have hok := hv.2.2.2.2.2 s.turn.toNat hlt
    -- one move
    have one : ∀ y, y ∈ madeL s → ((BG g y).2 ≤ x ↔ LeV (g.deps.drop (s.turn.toNat + 1)) (eff y) y.budget (x - 1) ∨ ∃ v ∈ dg g s.turn.toNat, 0 < ig (eff y) v.toNat ∧ LeV (g.deps.drop (s.turn.toNat + 1)) (dec (eff y) v) y.budget x) := fun y hy => by
      have hyd := hs.made hy
      have hyt := made_turn hy
      have aft : ∀ (c z : Int), Dom g (afterS y c) → (WG g (afterS y c) ≤ z ↔ LeV (g.deps.drop (s.turn.toNat + 1)) (eff (afterS y c)) y.budget z) := fun c z hc => by
        have := WG_LeV hv k (afterS y c) z hc (by show y.turn + 1 + k = _; omega)
        have e : (afterS y c).turn.toNat = s.turn.toNat + 1 := by show (y.turn + 1).toNat = _; omega
        rw [e] at this
        exact this
      unfold BG
      rw [bvF_le, hyt]
      have hnone := aft (-1) (x - 1) (hyd.after (by omega) (.inl rfl))
      rw [eff_none] at hnone
      constructor
      · rintro (h1 | ⟨v, hv1, hv2, hv3⟩)
        · exact .inl (hnone.1 (by omega))
        · have hdom := okDep_domG hok hv1
          refine .inr ⟨v, hv1, by rw [ig_eff, hv2.1]; exact hv2.2, ?_⟩
          rw [← eff_after hv2.1 hdom.1]
          exact (aft v x (hyd.after (by omega) (.inr hv2.2))).1 hv3
      · rintro (h1 | ⟨v, hv1, hv2, hv3⟩)
        · exact .inl (by have := hnone.2 h1; omega)
        · have hdom := okDep_domG hok hv1
          rw [ig_eff] at hv2
          have hf : bg y.failed v.toNat = false := by
            cases e : bg y.failed v.toNat with
            | false => rfl
            | true => rw [e] at hv2; simp at hv2
          rw [hf] at hv2
          refine .inr ⟨v, hv1, ⟨hf, hv2⟩, ?_⟩
          rw [← eff_after hf hdom.1] at hv3
          exact (aft v x (hyd.after (by omega) (.inr hv2))).2 hv3
    constructor
    · rintro ⟨_, h⟩ m hm
      have hself := (one s (mem_made.2 (.inl rfl))).1 (h _ (List.mem_map.2 ⟨s, mem_made.2 (.inl rfl), rfl⟩))
      rcases mem_mvs.1 hm with rfl | ⟨hb, i, hi, rfl⟩
      · exact hself
      · rw [eff_len] at hi
        have hif : i < s.failed.length := by have := hs.ls; have := hs.lf; omega
        cases hfi : bg s.failed i with
        | false =>
          have hm' : hit s i ∈ madeL s := mem_made.2 (.inr ⟨i, hif, hb, hfi, rfl⟩)
          have := (one _ hm').1 (h _ (List.mem_map.2 ⟨_, hm', rfl⟩))
          rw [eff_hit hif (by have := hs.ls; have := hs.lf; omega)] at this
          exact this
        | true =>
          rw [set_same (by rw [ig_eff, hfi]; rfl)]
          rcases hself with h1 | ⟨v, h1, h2, h3⟩
          · exact .inl (h1.lessB (by show s.budget - 1 ≤ s.budget; omega))
          · exact .inr ⟨v, h1, h2, h3.lessB (by show s.budget - 1 ≤ s.budget; omega)⟩
    · intro h
      have h' : LeV (dg g s.turn.toNat :: g.deps.drop (s.turn.toNat + 1)) (eff s) s.budget x := h
      refine ⟨h'.nonneg, fun y hy => ?_⟩
      obtain ⟨z, hz, rfl⟩ := List.mem_map.1 hy
      rw [one z hz]
      rcases mem_made.1 hz with rfl | ⟨v, h1, h2, h3, rfl⟩
      · exact h (eff z, z.budget) (mem_mvs.2 (.inl rfl))
      · have := h ((eff s).set v 0, s.budget - 1) (mem_mvs.2 (.inr ⟨h2, v, by rw [eff_len]; have := hs.ls; have := hs.lf; omega, rfl⟩))
        rw [← eff_hit h1 (by have := hs.ls; have := hs.lf; omega)] at this
        exact this
theorem eff_begin (g : Gm) : eff (beginS g) = g.starts := by
  refine ig_ext (by rw [eff_len]; rfl) fun i => ?_
  rw [ig_eff]
  have : bg (beginS g).failed i = false := by
    show bg (List.replicate g.starts.length false) i = false
    simp [bg, List.getD_eq_getElem?_getD, List.getElem?_replicate]
    split <;> rfl
  rw [this]
  rfl
/-- the value of a game -/
theorem val_LeV {g : Gm} (hv : VG g) (x : Int) : WG g (beginS g) ≤ x ↔ LeV g.deps g.starts g.budget x := by
  have := WG_LeV hv g.deps.length (beginS g) x (Dom.begin hv) (by show (0 : Int) + _ = _; omega)
  rw [eff_begin] at this
  exact this
end Go.Proofs.Ytgjkcnfinjenoaa
