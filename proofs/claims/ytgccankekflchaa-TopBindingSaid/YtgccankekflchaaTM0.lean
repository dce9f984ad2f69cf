/- Package game: the value in plain terms; the reference's Valid and Small; examples. -/
import Derived.Test.YtgccankekflchaaGamH
import Derived.Test.YtgccankekflchaaGamR
namespace Go.Proofs.Ytgccankekflchaa

def dec (s : List Int) (v : Int) : List Int := s.set v.toNat (ig s v.toNat - 1)
def mvs (s : List Int) (b : Int) : List (List Int × Int) := (s, b) :: if 0 < b then (List.range s.length).map (fun i => (s.set i 0, b - 1)) else []
/-- at most x of the departures are lost -/
def LeV : List (List Int) → List Int → Int → Int → Prop
  | [], _, _, x => 0 ≤ x
  | d :: ds, s, b, x => ∀ m ∈ mvs s b, LeV ds m.1 m.2 (x - 1) ∨ ∃ v ∈ d, 0 < ig m.1 v.toNat ∧ LeV ds (dec m.1 v) m.2 x
theorem mem_mvs {s : List Int} {b : Int} {m : List Int × Int} : m ∈ mvs s b ↔ m = (s, b) ∨ 0 < b ∧ ∃ i, i < s.length ∧ m = (s.set i 0, b - 1) := by
  unfold mvs
  rw [List.mem_cons]
  split
  · rename_i h
    rw [List.mem_map]
    constructor
    · rintro (h1 | ⟨i, hi, rfl⟩)
      · exact .inl h1
      · exact .inr ⟨h, i, by simpa using hi, rfl⟩
    · rintro (h1 | ⟨_, i, hi, rfl⟩)
      · exact .inl h1
      · exact .inr ⟨i, by simpa using hi, rfl⟩
  · rename_i h
    constructor
    · rintro (h1 | h1)
      · exact .inl h1
      · simp at h1
    · rintro (h1 | ⟨h1, _⟩)
      · exact .inl h1
      · exact absurd h1 h
theorem dec_len (s : List Int) (v : Int) : (dec s v).length = s.length := List.length_set
theorem ig_dec (s : List Int) (v : Int) (j : Nat) : ig (dec s v) j = if v.toNat = j ∧ v.toNat < s.length then ig s v.toNat - 1 else ig s j := ig_set _ _ _ _
theorem LeV.nonneg : ∀ {ds : List (List Int)} {s : List Int} {b x : Int}, LeV ds s b x → 0 ≤ x
  | [], _, _, _, h => h
  | d :: ds, s, b, x, h => by
    rcases h (s, b) (mem_mvs.2 (.inl rfl)) with h1 | ⟨v, _, _, h1⟩
    · have := LeV.nonneg h1; omega
    · exact LeV.nonneg h1
theorem LeV.up : ∀ {ds : List (List Int)} {s : List Int} {b x y : Int}, LeV ds s b x → x ≤ y → LeV ds s b y
  | [], _, _, x, y, h, hy => by unfold LeV at *; omega
  | d :: ds, s, b, x, y, h, hy => fun m hm => by
    rcases h m hm with h1 | ⟨v, h1, h2, h3⟩
    · exact .inl (h1.up (by omega))
    · exact .inr ⟨v, h1, h2, h3.up hy⟩
theorem LeV.lessB : ∀ {ds : List (List Int)} {s : List Int} {b c x : Int}, LeV ds s b x → c ≤ b → LeV ds s c x
  | [], _, _, _, _, h, _ => h
  | d :: ds, s, b, c, x, h, hc => fun m hm => by
    rcases mem_mvs.1 hm with rfl | ⟨h0, i, hi, rfl⟩
    · rcases h (s, b) (mem_mvs.2 (.inl rfl)) with h1 | ⟨v, h1, h2, h3⟩
      · exact .inl (h1.lessB hc)
      · exact .inr ⟨v, h1, h2, h3.lessB hc⟩
    · rcases h (s.set i 0, b - 1) (mem_mvs.2 (.inr ⟨by omega, i, hi, rfl⟩)) with h1 | ⟨v, h1, h2, h3⟩
      · exact .inl (h1.lessB (by show c - 1 ≤ b - 1; omega))
      · exact .inr ⟨v, h1, h2, h3.lessB (by show c - 1 ≤ b - 1; omega)⟩
/-- pointwise no more -/
def LeS (s t : List Int) : Prop := s.length = t.length ∧ ∀ i, ig s i ≤ ig t i
theorem LeS.set {s t : List Int} (h : LeS s t) (i : Nat) {x y : Int} (hx : x ≤ y) : LeS (s.set i x) (t.set i y) := by
  refine ⟨by simpa using h.1, fun j => ?_⟩
  rw [ig_set, ig_set, ← h.1]
  split
  · exact hx
  · exact h.2 j
theorem LeS.dec {s t : List Int} (h : LeS s t) (v : Int) : LeS (dec s v) (dec t v) := h.set _ (by have := h.2 v.toNat; omega)
theorem LeV.moreS : ∀ {ds : List (List Int)} {s t : List Int} {b x : Int}, LeV ds s b x → LeS s t → LeV ds t b x
  | [], _, _, _, _, h, _ => h
  | d :: ds, s, t, b, x, h, hs => fun m hm => by
    rcases mem_mvs.1 hm with rfl | ⟨h0, i, hi, rfl⟩
    · rcases h (s, b) (mem_mvs.2 (.inl rfl)) with h1 | ⟨v, h1, h2, h3⟩
      · exact .inl (h1.moreS hs)
      · exact .inr ⟨v, h1, by have := hs.2 v.toNat; show 0 < ig t v.toNat; simp only at h2; omega, h3.moreS (hs.dec v)⟩
    · have hs' : LeS (s.set i 0) (t.set i 0) := hs.set i (Int.le_refl _)
      rcases h (s.set i 0, b - 1) (mem_mvs.2 (.inr ⟨h0, i, by have := hs.1; omega, rfl⟩)) with h1 | ⟨v, h1, h2, h3⟩
      · exact .inl (h1.moreS hs')
      · exact .inr ⟨v, h1, by have := hs'.2 v.toNat; show 0 < ig (t.set i 0) v.toNat; simp only at h2; omega, h3.moreS (hs'.dec v)⟩
/-- departures that allow more -/
inductive LeD : List (List Int) → List (List Int) → Prop
  | nil : LeD [] []
  | cons {d e : List Int} {ds es : List (List Int)} : (∀ v ∈ d, v ∈ e) → LeD ds es → LeD (d :: ds) (e :: es)
theorem LeV.moreD : ∀ {ds es : List (List Int)} {s : List Int} {b x : Int}, LeV ds s b x → LeD ds es → LeV es s b x
  | [], _, _, _, _, h, hd => by cases hd; exact h
  | d :: ds, _, s, b, x, h, hd => by
    cases hd with
    | cons h0 hd =>
      intro m hm
      rcases h m hm with h1 | ⟨v, h1, h2, h3⟩
      · exact .inl (h1.moreD hd)
      · exact .inr ⟨v, h0 v h1, h2, h3.moreD hd⟩
theorem LeV.short : ∀ {ds : List (List Int)} {d : List Int} {s : List Int} {b x : Int}, LeV (ds ++ [d]) s b x → LeV ds s b x
  | [], d, s, b, x, h => h.nonneg
  | e :: ds, d, s, b, x, h => fun m hm => by
    rcases h m hm with h1 | ⟨v, h1, h2, h3⟩
    · exact .inl (LeV.short h1)
    · exact .inr ⟨v, h1, h2, LeV.short h3⟩
theorem LeV.long : ∀ {ds : List (List Int)} {d : List Int} {s : List Int} {b x : Int}, LeV ds s b x → LeV (ds ++ [d]) s b (x + 1)
  | [], d, s, b, x, h => fun m hm => .inl (by unfold LeV at *; omega)
  | e :: ds, d, s, b, x, h => fun m hm => by
    rcases h m hm with h1 | ⟨v, h1, h2, h3⟩
    · exact .inl (by have := LeV.long (d := d) h1; rwa [show x - 1 + 1 = x + 1 - 1 by omega] at this)
    · exact .inr ⟨v, h1, h2, LeV.long h3⟩
theorem LeV.all : ∀ (ds : List (List Int)) (s : List Int) (b : Int), LeV ds s b ds.length
  | [], _, _ => Int.le_refl _
  | d :: ds, s, b => fun m _ => .inl (by have := LeV.all ds m.1 m.2; rwa [show ((d :: ds).length : Int) - 1 = ds.length by simp] )
/-- departures that allow no vehicle with starts -/
def noneD (s : List Int) (d : List Int) : Bool := d.all fun v => decide (ig s v.toNat ≤ 0)
def cntN (s : List Int) (ds : List (List Int)) : Nat := ds.countP (noneD s)
theorem noneD_mono {s t : List Int} (h : ∀ i, ig s i ≤ ig t i) {d : List Int} (hd : noneD t d = true) : noneD s d = true := by
  unfold noneD at *
  rw [List.all_eq_true] at *
  intro v hv
  have := hd v hv
  rw [decide_eq_true_eq] at *
  have := h v.toNat
  omega
theorem cntN_mono {s t : List Int} (h : ∀ i, ig s i ≤ ig t i) (ds : List (List Int)) : cntN t ds ≤ cntN s ds := List.countP_mono_left fun _ _ hd => noneD_mono h hd
theorem ig_dec_le (s : List Int) (v : Int) (i : Nat) : ig (dec s v) i ≤ ig s i := by
  rw [ig_dec]
  split
  · rename_i h
    rw [← h.1]
    omega
  · exact Int.le_refl _
theorem LeV.least : ∀ {ds : List (List Int)} {s : List Int} {b x : Int}, LeV ds s b x → (cntN s ds : Int) ≤ x
  | [], _, _, _, h => h
  | d :: ds, s, b, x, h => by
    unfold cntN
    rw [List.countP_cons]
    rcases h (s, b) (mem_mvs.2 (.inl rfl)) with h1 | ⟨v, h1, h2, h3⟩
    · have h2 : ((ds.countP (noneD s) : Nat) : Int) ≤ x - 1 := h1.least
      split <;> (simp only [Int.natCast_add, Int.cast_ofNat_Int]; omega)
    · have h4 := h3.least
      have h5 := cntN_mono (ig_dec_le s v) ds
      have h6 : noneD s d = false := by
        cases e : noneD s d with
        | false => rfl
        | true =>
          unfold noneD at e
          rw [List.all_eq_true] at e
          have := e v h1
          rw [decide_eq_true_eq] at this
          simp only at h2
          omega
      rw [h6]
      unfold cntN at h4 h5
      simp only at h4
      simp
      omega
def sumI (s : List Int) : Int := s.foldr (· + ·) 0
theorem sum_set : ∀ {s : List Int} {i : Nat} {x : Int}, i < s.length → sumI (s.set i x) = sumI s - ig s i + x
  | a :: s, 0, x, _ => by simp [sumI, ig]; omega
  | a :: s, i + 1, x, h => by
    have := sum_set (s := s) (i := i) (x := x) (by simpa using h)
    have e : ig (a :: s) (i + 1) = ig s i := by simp [ig]
    rw [e]
    show a + sumI (s.set i x) = a + sumI s - ig s i + x
    omega
theorem sum_nonneg : ∀ {s : List Int}, (∀ i, 0 ≤ ig s i) → 0 ≤ sumI s
  | [], _ => Int.le_refl _
  | a :: s, h => by
    have h0 := h 0
    have h1 := sum_nonneg (s := s) fun i => by have := h (i + 1); simpa [ig] using this
    have e : ig (a :: s) 0 = a := by simp [ig]
    rw [e] at h0
    show 0 ≤ a + sumI s
    omega
theorem LeV.sum : ∀ {ds : List (List Int)} {s : List Int} {b x : Int}, LeV ds s b x → (∀ i, 0 ≤ ig s i) → (ds.length : Int) - sumI s ≤ x
  | [], s, _, x, h, hs => by have := sum_nonneg hs; unfold LeV at h; simp; omega
  | d :: ds, s, b, x, h, hs => by
    rw [List.length_cons]
    rcases h (s, b) (mem_mvs.2 (.inl rfl)) with h1 | ⟨v, h1, h2, h3⟩
    · have h4 : (ds.length : Int) - sumI s ≤ x - 1 := h1.sum hs
      omega
    · have h2' : 0 < ig s v.toNat := h2
      have hv : v.toNat < s.length := Nat.lt_of_not_le fun hn => by rw [ig_out hn] at h2'; omega
      have e : sumI (dec s v) = sumI s - 1 := by unfold dec; rw [sum_set hv]; omega
      have h4 : (ds.length : Int) - sumI (dec s v) ≤ x := h3.sum fun i => by
        show 0 ≤ ig (dec s v) i
        rw [ig_dec]
        split
        · omega
        · exact hs i
      omega
/-- the first vehicle that may go is taken -/
def firstV (s : List Int) (d : List Int) : Option Int := d.find? fun v => decide (0 < ig s v.toNat)
def greedyL : List (List Int) → List Int → Int
  | [], _ => 0
  | d :: ds, s => match firstV s d with
    | some v => greedyL ds (dec s v)
    | none => 1 + greedyL ds s
theorem LeV.greedy : ∀ (ds : List (List Int)) (s : List Int), LeV ds s 0 (greedyL ds s)
  | [], _ => Int.le_refl _
  | d :: ds, s => fun m hm => by
    rcases mem_mvs.1 hm with rfl | ⟨h0, _⟩
    · cases hf : firstV s d with
      | none =>
        refine .inl ?_
        have := LeV.greedy ds s
        have e : greedyL (d :: ds) s = 1 + greedyL ds s := by show (match firstV s d with | some v => _ | none => _) = _; rw [hf]
        rw [e]
        rwa [show 1 + greedyL ds s - 1 = greedyL ds s by omega]
      | some v =>
        refine .inr ⟨v, List.mem_of_find?_eq_some hf, by have := List.find?_some hf; simpa using this, ?_⟩
        have e : greedyL (d :: ds) s = greedyL ds (dec s v) := by show (match firstV s d with | some v => _ | none => _) = _; rw [hf]
        rw [e]
        exact LeV.greedy ds (dec s v)
    · omega
/-! ### the value of a state -/
def eff (s : St) : List Int := (List.range s.starts.length).map fun i => if bg s.failed i then 0 else ig s.starts i
theorem eff_len (s : St) : (eff s).length = s.starts.length := by simp [eff]
theorem ig_eff (s : St) (i : Nat) : ig (eff s) i = if bg s.failed i then 0 else ig s.starts i := by
  by_cases h : i < s.starts.length
  · rw [ig_lt (by rw [eff_len]; exact h)]
    simp [eff]
  · rw [ig_out (by rw [eff_len]; omega), ig_out (l := s.starts) (by omega)]
    split <;> rfl
theorem ig_ext {s t : List Int} (hl : s.length = t.length) (h : ∀ i, ig s i = ig t i) : s = t := by
  refine List.ext_getElem hl fun i h1 h2 => ?_
  rw [← ig_lt h1, ← ig_lt h2]
  exact h i
theorem maxL_le {l : List Int} {x : Int} : maxL l ≤ x ↔ 0 ≤ x ∧ ∀ y ∈ l, y ≤ x := by
  unfold maxL
  suffices hh : ∀ (l : List Int) (a : Int), l.foldl max a ≤ x ↔ a ≤ x ∧ ∀ y ∈ l, y ≤ x from hh l 0
  intro l
  induction l with
  | nil => intro a; simp
  | cons y l ih =>
    intro a
    rw [List.foldl_cons, ih]
    simp only [List.mem_cons, forall_eq_or_imp]
    constructor
    · rintro ⟨h1, h2⟩
      exact ⟨by omega, by omega, h2⟩
    · rintro ⟨h1, h2, h3⟩
      exact ⟨by omega, h3⟩
theorem bvF_le {g : Gm} {w : St → Int} {x : St} {y : Int} : (bvF g w x).2 ≤ y ↔ 1 + w (afterS x (-1)) ≤ y ∨ ∃ v ∈ dg g x.turn.toNat, (bg x.failed v.toNat = false ∧ 0 < ig x.starts v.toNat) ∧ w (afterS x v) ≤ y := by
  unfold bvF
  suffices hh : ∀ (l : List Int) (o : Int × Int), (l.foldl (considerF w x) o).2 ≤ y ↔ o.2 ≤ y ∨ ∃ v ∈ l, (bg x.failed v.toNat = false ∧ 0 < ig x.starts v.toNat) ∧ w (afterS x v) ≤ y from hh _ _
  intro l
  induction l with
  | nil => intro o; simp
  | cons v l ih =>
    intro o
    rw [List.foldl_cons, ih]
    simp only [List.mem_cons, exists_eq_or_imp]
    unfold considerF
    split
    · rename_i h
      split
      · rename_i h2
        constructor
        · rintro (h3 | h3)
          · exact .inr (.inl ⟨h, h3⟩)
          · exact .inr (.inr h3)
        · rintro (h3 | h3 | h3)
          · exact .inl (by show w (afterS x v) ≤ y; omega)
          · exact .inl h3.2
          · exact .inr h3
      · rename_i h2
        constructor
        · rintro (h3 | h3)
          · exact .inl h3
          · exact .inr (.inr h3)
        · rintro (h3 | h3 | h3)
          · exact .inl h3
          · exact .inl (by have := h3.2; omega)
          · exact .inr h3
    · rename_i h
      constructor
      · rintro (h3 | h3)
        · exact .inl h3
        · exact .inr (.inr h3)
      · rintro (h3 | h3 | h3)
        · exact .inl h3
        · exact absurd h3.1 h
        · exact .inr h3
theorem eff_after {s : St} {v : Int} (hv : bg s.failed v.toNat = false) (h0 : 0 ≤ v) : eff (afterS s v) = dec (eff s) v := by
  have e1 : (afterS s v).starts = s.starts.set v.toNat (ig s.starts v.toNat - 1) := by show (if 0 ≤ v then _ else _) = _; rw [if_pos h0]
  have e2 : (afterS s v).failed = s.failed := rfl
  refine ig_ext (by rw [eff_len, dec_len, eff_len, e1, List.length_set]) fun i => ?_
  rw [ig_eff, ig_dec, eff_len, ig_eff, ig_eff, e1, e2, ig_set, hv]
  by_cases h : v.toNat = i ∧ v.toNat < s.starts.length
  · rw [if_pos h, if_pos h, ← h.1, hv]
    rfl
  · rw [if_neg h, if_neg h]
theorem eff_none (s : St) : eff (afterS s (-1)) = eff s := rfl
theorem eff_hit {s : St} {v : Nat} (hv : v < s.failed.length) (hl : s.failed.length = s.starts.length) : eff (hit s v) = (eff s).set v 0 := by
  refine ig_ext (by rw [List.length_set, eff_len, eff_len]; rfl) fun i => ?_
  rw [ig_eff, ig_set, eff_len, ig_eff]
  have e : bg (hit s v).failed i = if v = i then true else bg s.failed i := bg_setT hv i
  rw [e]
  by_cases h : v = i
  · rw [if_pos h, if_pos rfl, if_pos ⟨h, by omega⟩]
  · rw [if_neg h, if_neg (c := v = i ∧ _) (fun h' => h h'.1)]
    rfl
theorem set_same {s : List Int} {i : Nat} (h : ig s i = 0) : s.set i 0 = s := by
  refine ig_ext (by simp) fun j => ?_
  rw [ig_set]
  split
  · rename_i h'
    rw [← h'.1, h]
  · rfl
theorem WG_LeV {g : Gm} (hv : VG g) : ∀ (k : Nat) (s : St) (x : Int), Dom g s → s.turn + k = g.deps.length → (WG g s ≤ x ↔ LeV (g.deps.drop s.turn.toNat) (eff s) s.budget x)
  | 0, s, x, hs, hk => by
    rw [WG_end (by omega), List.drop_eq_nil_of_le (by have := hs.t0; omega)]
    exact Iff.rfl
  | k + 1, s, x, hs, hk => by
    have h0 := hs.t0
    have hlt : s.turn.toNat < g.deps.length := by omega
    rw [WG_on hs.t0 (by omega), List.drop_eq_getElem_cons hlt, maxL_le]
    have hd : g.deps[s.turn.toNat] = dg g s.turn.toNat := by unfold dg; rw [List.getD_eq_getElem?_getD, List.getElem?_eq_getElem hlt]; rfl
    rw [hd]
    have hok := hv.2.2.2.2.2 s.turn.toNat hlt
    -- one move
    have one : ∀ y, y ∈ madeL s → ((BG g y).2 ≤ x ↔ LeV (g.deps.drop (s.turn.toNat + 1)) (eff y) y.budget (x - 1) ∨ ∃ v ∈ dg g s.turn.toNat, 0 < ig (eff y) v.toNat ∧ LeV (g.deps.drop (s.turn.toNat + 1)) (dec (eff y) v) y.budget x) := fun y hy => by
      have hyd := hs.made hy
      have hyt := made_turn hy
      have aft : ∀ (c z : Int), Dom g (afterS y c) → (WG g (afterS y c) ≤ z ↔ LeV (g.deps.drop (s.turn.toNat + 1)) (eff (afterS y c)) y.budget z) := fun c z hc => by
        have := WG_LeV hv k (afterS y c) z hc (by show y.turn + 1 + k = _; omega)
        have e : (afterS y c).turn.toNat = s.turn.toNat + 1 := by show (y.turn + 1).toNat = _; omega
        rw [e] at this
        exact this
      unfold BG
      rw [bvF_le, hyt]
      have hnone := aft (-1) (x - 1) (hyd.after (by omega) (.inl rfl))
      rw [eff_none] at hnone
      constructor
      · rintro (h1 | ⟨v, hv1, hv2, hv3⟩)
        · exact .inl (hnone.1 (by omega))
        · have hdom := okDep_domG hok hv1
          refine .inr ⟨v, hv1, by rw [ig_eff, hv2.1]; exact hv2.2, ?_⟩
          rw [← eff_after hv2.1 hdom.1]
          exact (aft v x (hyd.after (by omega) (.inr hv2.2))).1 hv3
      · rintro (h1 | ⟨v, hv1, hv2, hv3⟩)
        · exact .inl (by have := hnone.2 h1; omega)
        · have hdom := okDep_domG hok hv1
          rw [ig_eff] at hv2
          have hf : bg y.failed v.toNat = false := by
            cases e : bg y.failed v.toNat with
            | false => rfl
            | true => rw [e] at hv2; simp at hv2
          rw [hf] at hv2
          refine .inr ⟨v, hv1, ⟨hf, hv2⟩, ?_⟩
          rw [← eff_after hf hdom.1] at hv3
          exact (aft v x (hyd.after (by omega) (.inr hv2))).2 hv3
    constructor
    · rintro ⟨_, h⟩ m hm
      have hself := (one s (mem_made.2 (.inl rfl))).1 (h _ (List.mem_map.2 ⟨s, mem_made.2 (.inl rfl), rfl⟩))
      rcases mem_mvs.1 hm with rfl | ⟨hb, i, hi, rfl⟩
      · exact hself
      · rw [eff_len] at hi
        have hif : i < s.failed.length := by have := hs.ls; have := hs.lf; omega
        cases hfi : bg s.failed i with
        | false =>
          have hm' : hit s i ∈ madeL s := mem_made.2 (.inr ⟨i, hif, hb, hfi, rfl⟩)
          have := (one _ hm').1 (h _ (List.mem_map.2 ⟨_, hm', rfl⟩))
          rw [eff_hit hif (by have := hs.ls; have := hs.lf; omega)] at this
          exact this
        | true =>
          rw [set_same (by rw [ig_eff, hfi]; rfl)]
          rcases hself with h1 | ⟨v, h1, h2, h3⟩
          · exact .inl (h1.lessB (by show s.budget - 1 ≤ s.budget; omega))
          · exact .inr ⟨v, h1, h2, h3.lessB (by show s.budget - 1 ≤ s.budget; omega)⟩
    · intro h
      have h' : LeV (dg g s.turn.toNat :: g.deps.drop (s.turn.toNat + 1)) (eff s) s.budget x := h
      refine ⟨h'.nonneg, fun y hy => ?_⟩
      obtain ⟨z, hz, rfl⟩ := List.mem_map.1 hy
      rw [one z hz]
      rcases mem_made.1 hz with rfl | ⟨v, h1, h2, h3, rfl⟩
      · exact h (eff z, z.budget) (mem_mvs.2 (.inl rfl))
      · have := h ((eff s).set v 0, s.budget - 1) (mem_mvs.2 (.inr ⟨h2, v, by rw [eff_len]; have := hs.ls; have := hs.lf; omega, rfl⟩))
        rw [← eff_hit h1 (by have := hs.ls; have := hs.lf; omega)] at this
        exact this
theorem eff_begin (g : Gm) : eff (beginS g) = g.starts := by
  refine ig_ext (by rw [eff_len]; rfl) fun i => ?_
  rw [ig_eff]
  have : bg (beginS g).failed i = false := by
    show bg (List.replicate g.starts.length false) i = false
    simp [bg, List.getD_eq_getElem?_getD, List.getElem?_replicate]
    split <;> rfl
  rw [this]
  rfl
/-- the value of a game -/
theorem val_LeV {g : Gm} (hv : VG g) (x : Int) : WG g (beginS g) ≤ x ↔ LeV g.deps g.starts g.budget x := by
  have := WG_LeV hv g.deps.length (beginS g) x (Dom.begin hv) (by show (0 : Int) + _ = _; omega)
  rw [eff_begin] at this
  exact this
end Go.Proofs.Ytgccankekflchaa
namespace Go.Proofs.Ytgccankekflchaa
open Go.RowKit

theorem okDepG_pos {m : Nat} {l : List Int} (h : okDep m l) : ∀ i, i < l.length → 0 ≤ ig l i := fun i => by
  induction i with
  | zero => intro hi; have := (h 0 hi).1; rw [if_pos rfl] at this; omega
  | succ i ih =>
    intro hi
    have h1 := (h (i + 1) hi).1
    rw [if_neg (by omega), Nat.add_sub_cancel] at h1
    have := ih (by omega)
    omega
set_option maxRecDepth 100000 in
set_option maxHeartbeats 4000000 in
theorem rvalidG_no (g : Gm) (sa da : Option Addr) (sc dc : Nat) (w : World) (h : 6 < g.starts.length ∨ g.starts.length ≤ 6 ∧ 12 < g.deps.length ∨ g.starts.length ≤ 6 ∧ g.deps.length ≤ 12 ∧ g.budget < 0 ∨ g.starts.length ≤ 6 ∧ g.deps.length ≤ 12 ∧ 0 ≤ g.budget ∧ 3 < g.budget) :
    Calls Try.prog 13 #[gmV g sa sc da dc] w (RetB (.bool (vgB g)) w) := by
  have HV := Lib.hid (show vgB g = false from vgB_false fun hv => by
    obtain ⟨v1, v2, v3, v4, _⟩ := hv
    omega)
  rcases h with h | ⟨h0, h⟩ | ⟨h0, h1, h⟩ | ⟨h0, h1, h2, h⟩
  · have d1 : decide ((6 : Int) < (g.starts.length : Int)) = true := by simp; omega
    go_enter Try.func13, Try.ntmps13
    (go_wp2_with fail; go_ret; exact retB (vbool HV.out.symm) (by repeat (first | exact Below.refl _ _ | assumption | refine Below.drew ?_ | refine below_drewN ?_ _ | refine Below.alloc ?_ (by first | omega | (simp; done) | (simp; omega)) _ | refine Below.setCell ?_ (by first | omega | (simp; done) | (simp; omega)) _ | refine Below.trans ?_ (Below.mono (by assumption) (by first | omega | (simp; done) | (simp; omega))))))
  · have d1 : decide ((6 : Int) < (g.starts.length : Int)) = false := by simp; omega
    have d2 : decide ((12 : Int) < (g.deps.length : Int)) = true := by simp; omega
    go_enter Try.func13, Try.ntmps13
    (go_wp2_with fail; go_ret; exact retB (vbool HV.out.symm) (by repeat (first | exact Below.refl _ _ | assumption | refine Below.drew ?_ | refine below_drewN ?_ _ | refine Below.alloc ?_ (by first | omega | (simp; done) | (simp; omega)) _ | refine Below.setCell ?_ (by first | omega | (simp; done) | (simp; omega)) _ | refine Below.trans ?_ (Below.mono (by assumption) (by first | omega | (simp; done) | (simp; omega))))))
  · have d1 : decide ((6 : Int) < (g.starts.length : Int)) = false := by simp; omega
    have d2 : decide ((12 : Int) < (g.deps.length : Int)) = false := by simp; omega
    have d3 : decide (g.budget < (0 : Int)) = true := by simpa using h
    go_enter Try.func13, Try.ntmps13
    (go_wp2_with fail; go_ret; exact retB (vbool HV.out.symm) (by repeat (first | exact Below.refl _ _ | assumption | refine Below.drew ?_ | refine below_drewN ?_ _ | refine Below.alloc ?_ (by first | omega | (simp; done) | (simp; omega)) _ | refine Below.setCell ?_ (by first | omega | (simp; done) | (simp; omega)) _ | refine Below.trans ?_ (Below.mono (by assumption) (by first | omega | (simp; done) | (simp; omega))))))
  · have d1 : decide ((6 : Int) < (g.starts.length : Int)) = false := by simp; omega
    have d2 : decide ((12 : Int) < (g.deps.length : Int)) = false := by simp; omega
    have d3 : decide (g.budget < (0 : Int)) = false := by simp; omega
    have d4 : decide ((3 : Int) < g.budget) = true := by simpa using h
    go_enter Try.func13, Try.ntmps13
    (go_wp2_with fail; go_ret; exact retB (vbool HV.out.symm) (by repeat (first | exact Below.refl _ _ | assumption | refine Below.drew ?_ | refine below_drewN ?_ _ | refine Below.alloc ?_ (by first | omega | (simp; done) | (simp; omega)) _ | refine Below.setCell ?_ (by first | omega | (simp; done) | (simp; omega)) _ | refine Below.trans ?_ (Below.mono (by assumption) (by first | omega | (simp; done) | (simp; omega))))))
set_option maxRecDepth 100000 in
set_option maxHeartbeats 4000000 in
theorem rvalidG_yes (g : Gm) (sa da : Option Addr) (sc dc : Nat) (w : World) (hG : GmAt w g sa da) (hF : GmBig g) (h1 : g.starts.length ≤ 6) (h2 : g.deps.length ≤ 12) (h3 : 0 ≤ g.budget) (h4 : g.budget ≤ 3) :
    Calls Try.prog 13 #[gmV g sa sc da dc] w (RetB (.bool (vgB g)) w) := by
  have HG := Lib.hid hG
  have HF := Lib.hid hF
  have HH := Lib.hid (And.intro h1 (And.intro h2 (And.intro h3 h4)))
  obtain ⟨ns, hns⟩ : ∃ n, n = g.starts.length := ⟨_, rfl⟩
  obtain ⟨nd, hnd⟩ : ∃ n, n = g.deps.length := ⟨_, rfl⟩
  obtain ⟨bu, hbu⟩ : ∃ n, n = g.budget := ⟨_, rfl⟩
  have HNS := Lib.hid hns
  have HND := Lib.hid hnd
  rw [← hns] at h1
  rw [← hnd] at h2
  rw [← hbu] at h3 h4
  unfold gmV
  rw [← hns, ← hnd, ← hbu]
  have d1 : decide ((6 : Int) < (ns : Int)) = false := by simp; omega
  have d2 : decide ((12 : Int) < (nd : Int)) = false := by simp; omega
  have d3 : decide (bu < (0 : Int)) = false := by simpa using h3
  have d4 : decide ((3 : Int) < bu) = false := by simpa using h4
  clear hG hF hns hnd hbu
  go_enter Try.func13, Try.ntmps13
  go_wp2_with fail
  obtain ⟨wx, hwx⟩ : ∃ wx, wx = w.alloc (.cells #[.slice sa ns sc, .slice da nd dc, .int .i64 bu] 25) := ⟨_, rfl⟩
  rw [← hwx]
  have hbx : Below w.heap.size w wx := by rw [hwx]; exact (Below.refl _ _).alloc (Nat.le_refl _) _
  have HBX := Lib.hid hbx
  have b0 : wx.cell? ⟨w.heap.size, 0, none⟩ = some (.slice sa ns sc) := by rw [hwx]; simp [go_sem]
  have b1 : wx.cell? ⟨w.heap.size, 1, none⟩ = some (.slice da nd dc) := by rw [hwx]; simp [go_sem]
  have HGX := Lib.hid (HG.out.later hbx)
  clear hwx hbx d1 d2 d3 d4
  go_loopg [3] (ns + 1) (fun k v3 wr => ∃ i : Nat, i ≤ ns ∧ k + i = ns + 1 ∧ v3 = .int .i64 i ∧ wr = wx ∧ ∀ r, r < i → 0 ≤ ig g.starts r ∧ ig g.starts r ≤ 12)
  case atStart => exact ⟨0, by omega, by omega, rfl, rfl, fun r hr => absurd hr (by omega)⟩
  case round =>
    obtain ⟨i, hi, hki, rfl, rfl, hall⟩ := hrel
    have HA := Lib.hid hall
    clear hall
    by_cases hlt : i < ns
    · obtain ⟨pb, po, rfl, fp⟩ := HGX.out.s.fam (by have := HNS.out; omega)
      have hc := fp i (by have := HNS.out; omega)
      obtain ⟨v, hv⟩ : ∃ v, v = ig g.starts i := ⟨_, rfl⟩
      rw [← hv] at hc
      have HVV := Lib.hid hv
      have z1 : (i : Int) < (ns : Int) := by omega
      have z0 : (0 : Int) ≤ (i : Int) := by omega
      clear fp hv
      by_cases hb : 0 ≤ v ∧ v ≤ 12
      · have e1 : decide (v < 0) = false := by simp; omega
        have e2 : decide ((12 : Int) < v) = false := by simp; omega
        have HB := Lib.hid hb
        clear hb
        go_wp2_with fail
        go_roundg (ns - i)
        case measure => omega
        case rel => exact ⟨i + 1, by omega, by omega, by go_num, rfl, fun r hr => by
          rcases Nat.lt_succ_iff_lt_or_eq.1 hr with h | h
          · exact HA.out r h
          · subst h; rw [← HVV.out]; exact HB.out⟩
      · have HN := Lib.hid (show vgB g = false from vgB_false fun hvg => by
          have := hvg.2.2.2.2.1 i (by have := HNS.out; omega)
          rw [← HVV.out] at this
          exact hb this)
        by_cases e1 : v < 0
        · have e1' : decide (v < 0) = true := by simpa using e1
          clear hb e1
          go_wp2_with fail
          go_ret
          exact retB (vbool HN.out.symm) HBX.out
        · have e1' : decide (v < 0) = false := by simpa using e1
          have e2 : decide ((12 : Int) < v) = true := by simp; omega
          clear hb e1
          go_wp2_with fail
          go_ret
          exact retB (vbool HN.out.symm) HBX.out
    · obtain rfl : i = ns := by omega
      have HS := Lib.hid (show ∀ r, r < g.starts.length → 0 ≤ ig g.starts r ∧ ig g.starts r ≤ 12 from fun r hr => HA.out r (by have := HNS.out; omega))
      go_wp2_with fail
      go_loopg [4] (nd + 1) (fun k v4 wq => ∃ t : Nat, t ≤ nd ∧ k + t = nd + 1 ∧ v4 = .int .i64 t ∧ wq = wr ∧ ∀ r, r < t → okDep g.starts.length (dg g r))
      case atStart => exact ⟨0, by omega, by omega, rfl, rfl, fun r hr => absurd hr (by omega)⟩
      case round =>
        obtain ⟨t, ht, hkt, rfl, rfl, hall⟩ := hrel
        have HD := Lib.hid hall
        clear hall
        by_cases hlt2 : t < nd
        · have htd : t < g.deps.length := by have := HND.out; omega
          obtain ⟨lb, lo, ra, rc, rfl, hcell, hrow⟩ := HGX.out.d t htd
          obtain ⟨l, hl⟩ : ∃ l, g.deps.getD t [] = l := ⟨_, rfl⟩
          rw [hl] at hcell hrow
          have hlen : l.length < 9223372036854775808 := by rw [← hl]; exact HF.out.r t htd
          have HL := Lib.hid (show dg g t = l from hl)
          have HR := Lib.hid hrow
          obtain ⟨ll, hll⟩ : ∃ ll, ll = l.length := ⟨_, rfl⟩
          have HLL := Lib.hid hll
          rw [← hll] at hcell hlen
          clear hl hrow hll
          have y1 : (t : Int) < (nd : Int) := by omega
          have y0 : (0 : Int) ≤ (t : Int) := by omega
          go_wp2_with fail
          go_loopg [5] (ll + 1) (fun k v5 wz => ∃ q : Nat, q ≤ ll ∧ k + q = ll + 1 ∧ v5 = .int .i64 q ∧ wz = wr ∧ ∀ r, r < q → (if r = 0 then (-1 : Int) else ig l (r - 1)) < ig l r ∧ ig l r < g.starts.length)
          case atStart => exact ⟨0, by omega, by omega, rfl, rfl, fun r hr => absurd hr (by omega)⟩
          case round =>
            obtain ⟨q, hq, hkq, rfl, rfl, hok⟩ := hrel
            have HK := Lib.hid hok
            clear hok
            by_cases hlq : q < ll
            · have hqL : q < l.length := by have := HLL.out; omega
              obtain ⟨rb, ro, rfl, fr⟩ := HR.out.fam (by omega)
              have hcq := fr q hqL
              obtain ⟨v, hv⟩ : ∃ v, v = ig l q := ⟨_, rfl⟩
              rw [← hv] at hcq
              have HVV := Lib.hid hv
              have HBD := Lib.hid (show okDep g.starts.length l → ((if q = 0 then (-1 : Int) else ig l (q - 1)) < v ∧ v < g.starts.length ∧ 0 ≤ v) from fun h => by
                have h1 := h q hqL
                have h2 := okDepG_pos h q hqL
                rw [← hv] at h1 h2
                exact ⟨h1.1, h1.2, h2⟩)
              have HVN := Lib.hid (show ¬ okDep g.starts.length l → vgB g = false from fun h => vgB_false fun hvg => by
                have := hvg.2.2.2.2.2 t htd
                rw [HL.out] at this
                exact h this)
              have x1 : (q : Int) < (ll : Int) := by omega
              have x0 : (0 : Int) ≤ (q : Int) := by omega
              clear hv
              by_cases hv0 : v < 0
              · have e1 : decide (v < 0) = true := by simpa using hv0
                have HN := Lib.hid (HVN.out fun h => by have := (HBD.out h).2.2; omega)
                clear fr hv0
                go_wp2_with fail
                go_ret
                exact retB (vbool HN.out.symm) HBX.out
              · have e1 : decide (v < 0) = false := by simpa using hv0
                by_cases hvn : (i : Int) ≤ v
                · have e2 : decide ((i : Int) ≤ v) = true := by simpa using hvn
                  have HN := Lib.hid (HVN.out fun h => by have := (HBD.out h).2.1; have := HNS.out; omega)
                  clear fr hv0 hvn
                  go_wp2_with fail
                  go_ret
                  exact retB (vbool HN.out.symm) HBX.out
                · have e2 : decide ((i : Int) ≤ v) = false := by simpa using hvn
                  by_cases hq0 : q = 0
                  · subst hq0
                    have HOK := Lib.hid (show (-1 : Int) < v ∧ v < g.starts.length from ⟨by omega, by have := HNS.out; omega⟩)
                    rw [Nat.add_zero] at hcq
                    clear fr hv0 hvn
                    go_wp2_with fail
                    go_roundg ll
                    case measure => omega
                    case rel => exact ⟨1, by omega, by omega, by go_num, rfl, fun r hr => by
                      obtain rfl : r = 0 := by omega
                      rw [if_pos rfl, ← HVV.out]
                      exact HOK.out⟩
                  · have hcp := fr (q - 1) (by omega)
                    obtain ⟨u, hu⟩ : ∃ u, u = ig l (q - 1) := ⟨_, rfl⟩
                    rw [← hu] at hcp
                    have HUU := Lib.hid hu
                    have e3 : decide (0 < q) = true := decide_eq_true (by omega)
                    have e3' : decide ((0 : Int) < (q : Int)) = true := decide_eq_true (by omega)
                    have w1 : IntKind.i64.wrap ((q : Int) - 1) = ((q - 1 : Nat) : Int) := by rw [IntWalk.i64_in _ (by omega)]; omega
                    obtain ⟨q1, hq1⟩ : ∃ q1, q1 = q - 1 := ⟨_, rfl⟩
                    rw [← hq1] at hcp w1
                    have u0 : (0 : Int) ≤ (q1 : Int) := by omega
                    have u1 : (q1 : Int) < (ll : Int) := by omega
                    have HV2 := Lib.hid (show ¬ v < 0 ∧ ¬ (i : Int) ≤ v ∧ ¬ q = 0 from ⟨hv0, hvn, hq0⟩)
                    have HQ1 := Lib.hid hq1
                    clear fr hv0 hvn hu hq0 hq1
                    by_cases hle : v ≤ u
                    · have e4 : decide (v ≤ u) = true := by simpa using hle
                      have HN := Lib.hid (HVN.out fun h => by
                        have := (HBD.out h).1
                        rw [if_neg HV2.out.2.2, ← HUU.out] at this
                        omega)
                      clear hle
                      go_wp2_with fail
                      go_ret
                      exact retB (vbool HN.out.symm) HBX.out
                    · have e4 : decide (v ≤ u) = false := by simpa using hle
                      have HLE := Lib.hid hle
                      clear hle
                      go_wp2_with fail
                      go_roundg (ll - q)
                      case measure => omega
                      case rel => exact ⟨q + 1, by omega, by omega, by go_num, rfl, fun r hr => by
                        rcases Nat.lt_succ_iff_lt_or_eq.1 hr with h | h
                        · exact HK.out r h
                        · subst h
                          rw [if_neg HV2.out.2.2, ← HUU.out, ← HVV.out]
                          have h1 := HV2.out.2.1
                          have h2 := HNS.out
                          have h3 := HLE.out
                          exact ⟨by omega, by omega⟩⟩
            · obtain rfl : q = ll := by omega
              go_wp2_with fail
              go_roundg (nd - t)
              case measure => omega
              case rel => exact ⟨t + 1, by omega, by omega, by go_num, rfl, fun r hr => by
                rcases Nat.lt_succ_iff_lt_or_eq.1 hr with h | h
                · exact HD.out r h
                · subst h; rw [HL.out]; exact fun j hj => HK.out j (by have := HLL.out; omega)⟩
        · obtain rfl : t = nd := by omega
          have HN := Lib.hid (show vgB g = true from vgB_true ⟨HH.out.1, HH.out.2.1, HH.out.2.2.1, HH.out.2.2.2, HS.out, fun r hr => HD.out r (by have := HND.out; omega)⟩)
          go_wp2_with fail
          go_ret
          exact retB (vbool HN.out.symm) HBX.out
theorem rvalidG_any (g : Gm) (sa da : Option Addr) (sc dc : Nat) (w : World) (hG : GmAt w g sa da) (hF : GmBig g) : Calls Try.prog 13 #[gmV g sa sc da dc] w (RetB (.bool (vgB g)) w) := by
  by_cases h1 : g.starts.length ≤ 6
  · by_cases h2 : g.deps.length ≤ 12
    · by_cases h3 : 0 ≤ g.budget
      · by_cases h4 : g.budget ≤ 3
        · exact rvalidG_yes g sa da sc dc w hG hF h1 h2 h3 h4
        · exact rvalidG_no g sa da sc dc w (.inr (.inr (.inr ⟨h1, h2, h3, by omega⟩)))
      · exact rvalidG_no g sa da sc dc w (.inr (.inr (.inl ⟨h1, h2, by omega⟩)))
    · exact rvalidG_no g sa da sc dc w (.inr (.inl ⟨h1, by omega⟩))
  · exact rvalidG_no g sa da sc dc w (.inl (by omega))
end Go.Proofs.Ytgccankekflchaa
namespace Go.Proofs.Ytgccankekflchaa
open Go.RowKit

@[local go_sem high] theorem run_maxH (P : Program) (w : World) (ts : Array TypeId) (t : TypeId) (k k' : IntKind) (x y : Int) : (Builtin.max_ ts t #[.int k x, .int k' y]).run P w = .ok (.int k (max x y)) w := by
  simp [Builtin.max_, Builtin.max2, if_max]
def smB (g : Gm) : Bool := decide (szG g g.starts.length ≤ 200000)
theorem smB_iff {g : Gm} : smB g = true ↔ SmG g := decide_eq_true_iff
set_option maxRecDepth 100000 in
set_option maxHeartbeats 4000000 in
theorem small_any (g : Gm) (sa da : Option Addr) (sc dc : Nat) (w : World) (hG : GmAt w g sa da) (hv : VG g) : Calls Try.prog 14 #[gmV g sa sc da dc] w (RetB (.bool (smB g)) w) := by
  obtain ⟨n, hn⟩ : ∃ n, n = g.starts.length := ⟨_, rfl⟩
  obtain ⟨d, hd⟩ : ∃ n, n = g.deps.length := ⟨_, rfl⟩
  obtain ⟨bu, hbu⟩ : ∃ n, n = g.budget := ⟨_, rfl⟩
  have HV := Lib.hid hv
  have HN := Lib.hid hn
  have HG := Lib.hid hG
  have HZ := Lib.hid (show szG g 0 = max 1 (d : Int) * (bu + 1) from by rw [hd, hbu]; rfl)
  have hb : 0 ≤ bu ∧ bu ≤ 3 := by rw [hbu]; exact ⟨hv.2.2.1, hv.2.2.2.1⟩
  have hd12 : d ≤ 12 := by rw [hd]; exact hv.2.1
  have hn6 : n ≤ 6 := by rw [hn]; exact hv.1
  have HSZ := Lib.hid (fun i (hi : i ≤ n) => szG_in hv i (by rw [← hn]; exact hi))
  unfold gmV
  rw [← hn, ← hd, ← hbu]
  have w1 : IntKind.i64.wrap (bu + 1) = bu + 1 := IntWalk.i64_in _ (by omega)
  have w2 : IntKind.i64.wrap (max 1 (d : Int) * (bu + 1)) = max 1 (d : Int) * (bu + 1) := by
    have h := HSZ.out 0 (by omega)
    rw [HZ.out] at h
    exact IntWalk.i64_in _ (by omega)
  clear hv hG hn hd hbu
  go_enter Try.func14, Try.ntmps14
  go_upto_region 1 with fail
  refine wp_named ?_
  intro wx hwx
  obtain ⟨hbx, _, hx, _⟩ := alloc1 w [.slice sa n sc, .slice da d dc, .int .i64 bu] 25 wx hwx
  have HBX := Lib.hid hbx
  have c0 := (hx 0 _ rfl).1
  have c1 := (hx 1 _ rfl).1
  have c2 := (hx 2 _ rfl).1
  have HGX := Lib.hid (HG.out.s.later hbx)
  clear hwx hbx hx
  go_wp2_with fail
  obtain ⟨z, hz⟩ : ∃ z, z = max 1 (d : Int) * (bu + 1) := ⟨_, rfl⟩
  rw [← hz]
  have HZ2 := Lib.hid (HZ.out.trans hz.symm)
  clear hz w2
  go_loopg [3, 4] (n + 1) (fun k v3 v4 wr => ∃ i : Nat, i ≤ n ∧ k + i = n + 1 ∧ v4 = .int .i64 i ∧ v3 = .int .i64 (szG g i) ∧ wr = wx)
  case atStart => exact ⟨0, by omega, by omega, rfl, by rw [HZ2.out], rfl⟩
  case round =>
    obtain ⟨i, hi, hki, rfl, rfl, rfl⟩ := hrel
    obtain ⟨y, hy⟩ : ∃ y, y = szG g i := ⟨_, rfl⟩
    rw [← hy]
    have HY := Lib.hid hy
    clear hy
    by_cases hlt : i < n
    · obtain ⟨pb, po, rfl, fp⟩ := HGX.out.fam (by have := HN.out; omega)
      have hc := fp i (by have := HN.out; omega)
      have hs := HV.out.2.2.2.2.1 i (by rw [← HN.out]; exact hlt)
      obtain ⟨v, hv⟩ : ∃ v, v = ig g.starts i := ⟨_, rfl⟩
      rw [← hv] at hc hs
      have HNX := Lib.hid (show szG g (i + 1) = y * (2 * (v + 1)) from by rw [HY.out, hv]; rfl)
      have hin := HSZ.out (i + 1) (by omega)
      have hp := pow26 (i := i + 1) (by omega)
      rw [HNX.out] at hin
      have w3 : IntKind.i64.wrap (v + 1) = v + 1 := IntWalk.i64_in _ (by omega)
      have w4 : IntKind.i64.wrap (2 * (v + 1)) = 2 * (v + 1) := IntWalk.i64_in _ (by omega)
      have w5 : IntKind.i64.wrap (y * (2 * (v + 1))) = y * (2 * (v + 1)) := IntWalk.i64_in _ (by omega)
      have z1 : (i : Int) < (n : Int) := by omega
      have z0 : (0 : Int) ≤ (i : Int) := by omega
      clear fp hv hs hin hp
      go_wp2_with fail
      go_roundg (n - i)
      case measure => omega
      case rel => exact ⟨i + 1, by omega, by omega, by go_num, by rw [HNX.out], rfl⟩
    · obtain rfl : i = n := by omega
      have HE := Lib.hid (show decide (y ≤ 200000) = smB g from by unfold smB; rw [HY.out, HN.out])
      go_wp2_with fail
      go_ret
      exact retB (vbool HE.out) HBX.out
noncomputable def fewB (g : Gm) : Bool := @decide (VG g ∧ SmG g ∧ g.deps.length ≤ 6 ∧ g.starts.length ≤ 4) (Classical.propDecidable _)
theorem fewB_true {g : Gm} (h : VG g ∧ SmG g ∧ g.deps.length ≤ 6 ∧ g.starts.length ≤ 4) : fewB g = true := by unfold fewB; exact @decide_eq_true _ (Classical.propDecidable _) h
theorem fewB_false {g : Gm} (h : ¬ (VG g ∧ SmG g ∧ g.deps.length ≤ 6 ∧ g.starts.length ≤ 4)) : fewB g = false := by unfold fewB; exact @decide_eq_false _ (Classical.propDecidable _) h
end Go.Proofs.Ytgccankekflchaa
namespace Go.Proofs.Ytgccankekflchaa
open Go.RowKit

def exG (b : Int) : Gm := ⟨[1, 2], [[0, 1], [0, 1], [0, 1]], b⟩
theorem exG_vg {b : Int} (h : b = 0 ∨ b = 1) : VG (exG b) := by
  refine ⟨by show 2 ≤ 6; decide, by show 3 ≤ 12; decide, by show 0 ≤ b; omega, by show b ≤ 3; omega, fun i hi => ?_, fun i hi => ?_⟩
  · have hi' : i < 2 := hi
    have : i = 0 ∨ i = 1 := by omega
    show 0 ≤ ig [1, 2] i ∧ ig [1, 2] i ≤ 12
    rcases this with rfl | rfl <;> exact ⟨by decide, by decide⟩
  · have hi' : i < 3 := hi
    have e : dg (exG b) i = [0, 1] := by
      have : i = 0 ∨ i = 1 ∨ i = 2 := by omega
      rcases this with rfl | rfl | rfl <;> rfl
    rw [e]
    intro j hj
    have hj' : j < 2 := hj
    have : j = 0 ∨ j = 1 := by omega
    show _ < ig [0, 1] j ∧ ig [0, 1] j < ((2 : Nat) : Int)
    rcases this with rfl | rfl <;> exact ⟨by decide, by decide⟩
theorem exG_sm {b : Int} (h : b = 0 ∨ b = 1) : SmG (exG b) := by
  rcases h with rfl | rfl
  · show szG (exG 0) 2 ≤ 200000
    decide
  · show szG (exG 1) 2 ≤ 200000
    decide
theorem exG_v1 : WG (exG 1) (beginS (exG 1)) = 2 := by kernel_rfl
theorem exG_v0 : WG (exG 0) (beginS (exG 0)) = 0 := by kernel_rfl
def exL : List Pos := [⟨0, [1, 2], [false, false], 0, 0, 0⟩, ⟨1, [0, 2], [false, false], 0, 1, 0⟩, ⟨2, [0, 1], [false, false], 0, 1, 0⟩]
theorem exG_plan : (followL (exG 0) (exG 0).deps.length (beginS (exG 0)) []).map (posS (exG 0)) = exL := by kernel_rfl
theorem sorted_perm : ∀ {P L : List Pos}, P.Perm L → P.Pairwise (fun x y => ¬ cmpP y x < 0) → L.Pairwise (fun x y => cmpP x y < 0) → P = L
  | [], [], _, _, _ => rfl
  | [], _ :: _, h, _, _ => by have := h.length_eq; simp at this
  | _ :: _, [], h, _, _ => by have := h.length_eq; simp at this
  | b :: P, a :: L, h, hp, hl => by
    have hab : a = b := by
      have h1 : b ∈ a :: L := h.mem_iff.1 (by simp)
      have h2 : a ∈ b :: P := h.mem_iff.2 (by simp)
      rcases List.mem_cons.1 h1 with e | h1
      · exact e.symm
      · rcases List.mem_cons.1 h2 with e | h2
        · exact e
        · have h3 := (List.pairwise_cons.1 hl).1 b h1
          have h4 := (List.pairwise_cons.1 hp).1 a h2
          exact absurd h3 h4
    subst hab
    rw [sorted_perm ((List.perm_cons a).1 h) (List.pairwise_cons.1 hp).2 (List.pairwise_cons.1 hl).2]
theorem exG_of {P : List Pos} (h : PlanOf (exG 0) P) : P = exL := by
  have hp := h.p
  rw [exG_plan] at hp
  exact sorted_perm hp h.s (by simp only [exL, List.pairwise_cons, List.mem_cons, List.not_mem_nil, or_false, forall_eq_or_imp, forall_eq]; exact ⟨⟨by decide, by decide⟩, by decide, fun _ h => h.elim, List.Pairwise.nil⟩)
theorem exG_few {b : Int} : GmFew (exG b) := ⟨by show 2 ≤ 1000; decide, by show 3 ≤ 1000; decide, fun i hi => by
  have hi' : i < 3 := hi
  have : i = 0 ∨ i = 1 ∨ i = 2 := by omega
  rcases this with rfl | rfl | rfl
  · show 2 ≤ 1000; decide
  · show 2 ≤ 1000; decide
  · show 2 ≤ 1000; decide⟩
theorem exG_val1 : valG (exG 1) = (2, 0) := by rw [valG_ok (exG_vg (.inr rfl)) (exG_sm (.inr rfl)), exG_v1]
theorem exG_val0 : valG (exG 0) = (0, 0) := by rw [valG_ok (exG_vg (.inl rfl)) (exG_sm (.inl rfl)), exG_v0]
end Go.Proofs.Ytgccankekflchaa
