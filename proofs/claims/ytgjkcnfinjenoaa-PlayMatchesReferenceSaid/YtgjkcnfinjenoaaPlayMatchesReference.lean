



/- For every game, plan and failures: Lost and Worst agree with the reference implementation (few departures, vehicles and positions, else nothing is said). -/
import Derived.Test.YtgjkcnfinjenoaaPM4
import Derived.Test.YtgjkcnfinjenoaaLift
import Derived.Laws.MakeOwn
namespace Go.Proofs.Ytgjkcnfinjenoaa
open Go.ChangeShapes Go.WideShapes Go.ChangeAt Go.RowKit Go.Joins Go.Maps
namespace PlayMatchesReference
/-! ### the next failures (plain) -/
def nextL (m : Int) : List Int → Option (List Int)
  | [] => none
  | a :: l => match nextL m l with
    | some l' => some (a :: l')
    | none => if a < m then some ((a + 1) :: List.replicate l.length (-1)) else none
theorem nextL_cons (m a : Int) (l : List Int) : nextL m (a :: l) = match nextL m l with
    | some l' => some (a :: l')
    | none => if a < m then some ((a + 1) :: List.replicate l.length (-1)) else none := rfl
theorem nextL_app {m : Int} {l l' : List Int} (h : nextL m l = some l') : ∀ k : List Int, nextL m (k ++ l) = some (k ++ l')
  | [] => h
  | a :: k => by rw [List.cons_append, nextL_cons, nextL_app h k]; rfl
def InR (m : Int) (F : List Int) : Prop := ∀ f ∈ F, -1 ≤ f ∧ f ≤ m
theorem bef_rep : ∀ {G : List Int} {m : Int} {k : Nat}, InR m G → G.length = k → bef G (List.replicate k (-1)) = false
  | [], _, 0, _, _ => rfl
  | [], _, k + 1, _, h => by simp at h
  | b :: G, _, 0, _, h => by simp at h
  | b :: G, m, k + 1, hG, h => by
    have h1 := (hG b (by simp)).1
    show (decide (b < -1) || (decide (b = -1) && bef G (List.replicate k (-1)))) = false
    rw [bef_rep (fun f hf => hG f (by simp [hf])) (by simpa using h), decide_eq_false (by omega), Bool.and_false]
    rfl
theorem bef_cons (b a : Int) (G F : List Int) : bef (b :: G) (a :: F) = true ↔ b < a ∨ b = a ∧ bef G F = true := by
  show (decide (b < a) || (decide (b = a) && bef G F)) = true ↔ _
  rw [Bool.or_eq_true, Bool.and_eq_true, decide_eq_true_iff, decide_eq_true_iff]
theorem next_spec {m : Int} : ∀ {F G : List Int}, G.length = F.length → InR m F → InR m G →
    (∀ F', nextL m F = some F' → F'.length = F.length ∧ InR m F' ∧ (bef G F' = true ↔ bef G F = true ∨ G = F)) ∧ (nextL m F = none → bef G F = true ∨ G = F)
  | [], [], _, _, _ => ⟨fun F' h => (by cases h), fun _ => .inr rfl⟩
  | [], _ :: _, h, _, _ => by simp at h
  | _ :: _, [], h, _, _ => by simp at h
  | a :: F, b :: G, hl, hF, hG => by
    have hl' : G.length = F.length := by simpa using hl
    have hF' : InR m F := fun f hf => hF f (by simp [hf])
    have hG' : InR m G := fun f hf => hG f (by simp [hf])
    obtain ⟨i1, i2⟩ := next_spec hl' hF' hG'
    have ha := hF a (by simp)
    have hb := hG b (by simp)
    cases hn : nextL m F with
    | some L =>
      obtain ⟨j1, j2, j3⟩ := i1 L hn
      have e : nextL m (a :: F) = some (a :: L) := by rw [nextL_cons, hn]
      refine ⟨fun F' h => ?_, fun h => by rw [e] at h; cases h⟩
      rw [e] at h
      cases h
      refine ⟨by simp [j1], fun f hf => ?_, ?_⟩
      · rcases List.mem_cons.1 hf with rfl | hf
        · exact ha
        · exact j2 f hf
      · rw [bef_cons, bef_cons, j3, List.cons.injEq]
        constructor
        · rintro (h | ⟨h, h2 | h2⟩)
          · exact .inl (.inl h)
          · exact .inl (.inr ⟨h, h2⟩)
          · exact .inr ⟨h, h2⟩
        · rintro ((h | ⟨h, h2⟩) | ⟨h, h2⟩)
          · exact .inl h
          · exact .inr ⟨h, .inl h2⟩
          · exact .inr ⟨h, .inr h2⟩
    | none =>
      have hall := i2 hn
      have key : bef (b :: G) (a :: F) = true ∨ b :: G = a :: F ↔ b ≤ a := by
        rw [bef_cons, List.cons.injEq]
        constructor
        · rintro ((h | ⟨h, _⟩) | ⟨h, _⟩) <;> omega
        · intro h
          by_cases e : b = a
          · rcases hall with h1 | h1
            · exact .inl (.inr ⟨e, h1⟩)
            · exact .inr ⟨e, h1⟩
          · exact .inl (.inl (by omega))
      by_cases hm : a < m
      · have e : nextL m (a :: F) = some ((a + 1) :: List.replicate F.length (-1)) := by rw [nextL_cons, hn]; exact if_pos hm
        refine ⟨fun F' h => ?_, fun h => by rw [e] at h; cases h⟩
        rw [e] at h
        cases h
        refine ⟨by simp, fun f hf => ?_, ?_⟩
        · rcases List.mem_cons.1 hf with rfl | hf
          · omega
          · have := (List.mem_replicate.1 hf).2
            omega
        · rw [key, bef_cons, bef_rep hG' hl']
          constructor
          · rintro (h | ⟨_, h⟩)
            · omega
            · cases h
          · intro h; exact .inl (by omega)
      · have e : nextL m (a :: F) = none := by rw [nextL_cons, hn]; exact if_neg hm
        refine ⟨fun F' h => (by rw [e] at h; cases h), fun _ => key.2 (by omega)⟩
/-- a number that grows -/
def rk (B : Nat) : List Int → Nat
  | [] => 0
  | a :: l => (a + 1).toNat * B ^ l.length + rk B l
theorem rk_rep (B : Nat) : ∀ k, rk B (List.replicate k (-1)) = 0
  | 0 => rfl
  | k + 1 => by
    rw [List.replicate_succ]
    show (-1 + 1 : Int).toNat * B ^ (List.replicate k (-1 : Int)).length + rk B (List.replicate k (-1)) = 0
    rw [rk_rep B k]
    simp
theorem rk_next {B : Nat} {m : Int} (hB : (B : Int) = m + 2) : ∀ {F : List Int}, InR m F → rk B F < B ^ F.length ∧ (∀ F', nextL m F = some F' → rk B F' = rk B F + 1) ∧ (nextL m F = none → rk B F + 1 = B ^ F.length)
  | [], _ => ⟨by simp [rk], fun F' h => (by cases h), fun _ => rfl⟩
  | a :: F, hF => by
    have ha := hF a (by simp)
    obtain ⟨h1, h2, h3⟩ := rk_next hB (F := F) fun f hf => hF f (by simp [hf])
    obtain ⟨q, hq⟩ : ∃ q : Nat, a + 1 = q := ⟨(a + 1).toNat, by omega⟩
    have hqB : q < B := by omega
    have e0 : rk B (a :: F) = q * B ^ F.length + rk B F := by
      show (a + 1).toNat * _ + _ = _
      rw [hq]
      rfl
    have hp : B ^ (a :: F).length = B * B ^ F.length := by rw [List.length_cons, Nat.pow_succ, Nat.mul_comm]
    have hle : (q + 1) * B ^ F.length ≤ B * B ^ F.length := Nat.mul_le_mul_right _ hqB
    have hdist : (q + 1) * B ^ F.length = q * B ^ F.length + B ^ F.length := Nat.succ_mul _ _
    rw [e0, hp]
    refine ⟨by omega, fun F' h => ?_, fun h => ?_⟩
    · cases hn : nextL m F with
      | some L =>
        rw [nextL_cons, hn] at h
        cases h
        have hlen : L.length = F.length := by
          have := (next_spec (m := m) (F := F) (G := F) rfl (fun f hf => hF f (by simp [hf])) (fun f hf => hF f (by simp [hf]))).1 L hn
          exact this.1
        show (a + 1).toNat * B ^ L.length + rk B L = _
        rw [hq, hlen, h2 L hn]
        show q * _ + _ = _
        omega
      | none =>
        have e : nextL m (a :: F) = if a < m then some ((a + 1) :: List.replicate F.length (-1)) else none := by rw [nextL_cons, hn]
        rw [e] at h
        by_cases hm : a < m
        · rw [if_pos hm] at h
          cases h
          have h4 := h3 hn
          show (a + 1 + 1).toNat * B ^ (List.replicate F.length (-1 : Int)).length + rk B (List.replicate F.length (-1)) = _
          rw [rk_rep, List.length_replicate, show (a + 1 + 1).toNat = q + 1 from by omega, hdist]
          omega
        · rw [if_neg hm] at h
          cases h
    · cases hn : nextL m F with
      | some L => rw [nextL_cons, hn] at h; cases h
      | none =>
        have e : nextL m (a :: F) = if a < m then some ((a + 1) :: List.replicate F.length (-1)) else none := by rw [nextL_cons, hn]
        rw [e] at h
        by_cases hm : a < m
        · rw [if_pos hm] at h; cases h
        · have h4 := h3 hn
          have : q + 1 = B := by omega
          rw [this] at hdist
          omega
/-! ### the reference's Worst (plain) -/
theorem bef_trans : ∀ {F G H : List Int}, bef F G = true → bef G H = true → bef F H = true
  | [], [], _, h, _ => by cases h
  | [], _ :: _, _, h, _ => by cases h
  | _ :: _, [], _, h, _ => by cases h
  | _ :: _, _ :: _, [], _, h => by cases h
  | a :: F, b :: G, c :: H, h1, h2 => by
    rw [bef_cons] at h1 h2 ⊢
    rcases h1 with h1 | ⟨h1, h3⟩
    · rcases h2 with h2 | ⟨h2, h4⟩
      · exact .inl (by omega)
      · exact .inl (by omega)
    · rcases h2 with h2 | ⟨h2, h4⟩
      · exact .inl (by omega)
      · exact .inr ⟨by omega, bef_trans h3 h4⟩
theorem allF_in {n : Nat} : ∀ {k : Nat} {s : St} {F : List Int}, F ∈ allF n k s → InR ((n : Int) - 1) F
  | 0, s, F, h => by
    have : F = [] := by simpa [allF] using h
    subst this
    exact fun f hf => (by cases hf)
  | k + 1, s, F, h => by
    obtain ⟨v, G, rfl, hv, _, hG⟩ := mem_allF.1 h
    intro f hf
    rcases List.mem_cons.1 hf with rfl | hf
    · omega
    · exact allF_in hG f hf
/-- where the reference stands: ahead of F, with the worst of what came ahead of it -/
structure WsP (g : Gm) (plan : List Pos) (F W : List Int) (m : Int) (D R : List (List Int)) : Prop where
  all : allG g = D ++ R
  d : ∀ G ∈ D, bef G F = true
  r : ∀ G ∈ R, bef G F = false
  ok : (runL (fun G => lostL g plan G (beginS g) 0) D).2 = none
  w : worstF (runL (fun G => lostL g plan G (beginS g) 0) D).1 = (W, m)
theorem WsP.head {g : Gm} {plan : List Pos} {F W : List Int} {m : Int} {D R : List (List Int)} (h : WsP g plan F W m D R) (hF : F ∈ allG g) : ∃ R', R = F :: R' := by
  have hR : F ∈ R := by
    have h1 := hF
    rw [h.all] at h1
    rcases List.mem_append.1 h1 with h2 | h2
    · have := h.d F h2
      rw [bef_irr] at this
      cases this
    · exact h2
  cases hRe : R with
  | nil => rw [hRe] at hR; cases hR
  | cons H R' =>
    have hp := allF_pw g.starts.length g.deps.length (beginS g)
    have hp2 : (D ++ H :: R').Pairwise (fun F G => bef F G = true) := by rw [← hRe, ← h.all]; exact hp
    rw [hRe] at hR
    rcases List.mem_cons.1 hR with e | e
    · exact ⟨R', by rw [e]⟩
    · have h1 := (List.pairwise_cons.1 (List.pairwise_append.1 hp2).2.1).1 F e
      have h2 := h.r H (by rw [hRe]; simp)
      rw [h1] at h2
      cases h2
/-- the failures themselves are looked at -/
theorem WsP.take {g : Gm} {plan : List Pos} {F W : List Int} {m v : Int} {D R' : List (List Int)} (h : WsP g plan F W m D (F :: R')) (hv : lostL g plan F (beginS g) 0 = .ok v) :
    allG g = (D ++ [F]) ++ R' ∧ (runL (fun G => lostL g plan G (beginS g) 0) (D ++ [F])).2 = none ∧ worstF (runL (fun G => lostL g plan G (beginS g) 0) (D ++ [F])).1 = (if m < v then (F, v) else (W, m)) := by
  have e : runL (fun G => lostL g plan G (beginS g) 0) (D ++ [F]) = ((runL (fun G => lostL g plan G (beginS g) 0) D).1 ++ [(F, v)], none) := by
    rw [runL_append, h.ok, runL_cons]
    simp only [hv]
    rfl
  refine ⟨by rw [h.all, List.append_assoc]; rfl, by rw [e], ?_⟩
  rw [e, worstF_snoc, h.w]
  rfl
theorem WsP.err {g : Gm} {plan : List Pos} {F W : List Int} {m e : Int} {D R' : List (List Int)} (h : WsP g plan F W m D (F :: R')) (hv : VG g) (he : lostL g plan F (beginS g) 0 = .error e) : worstV g plan = ([], 0, e) := by
  rw [worstV_yes hv, gamesG_run, h.all, runL_append, h.ok, runL_cons]
  simp only [he]
theorem WsP.done {g : Gm} {plan : List Pos} {W : List Int} {m : Int} (hv : VG g) (ho : (runL (fun G => lostL g plan G (beginS g) 0) (allG g)).2 = none) (hw : worstF (runL (fun G => lostL g plan G (beginS g) 0) (allG g)).1 = (W, m)) : worstV g plan = (W, m, 0) := by
  rw [worstV_yes hv, gamesG_run, ho]
  simp only [hw]
theorem WsP.next {g : Gm} {plan : List Pos} {F F' W : List Int} {m : Int} {D R : List (List Int)} (hall : allG g = D ++ R) (hD : ∀ G ∈ D, bef G F = true ∨ G = F) (hR : ∀ G ∈ R, bef G F = false ∧ G ≠ F) (ho : (runL (fun G => lostL g plan G (beginS g) 0) D).2 = none)
    (hw : worstF (runL (fun G => lostL g plan G (beginS g) 0) D).1 = (W, m)) (hFl : F.length = g.deps.length) (hFi : InR ((g.starts.length : Int) - 1) F) (hn : nextL ((g.starts.length : Int) - 1) F = some F') : WsP g plan F' W m D R := by
  have hsp : ∀ G ∈ allG g, (bef G F' = true ↔ bef G F = true ∨ G = F) := fun G hG => ((next_spec (by rw [allF_len hG, hFl]) hFi (allF_in hG)).1 F' hn).2.2
  refine ⟨hall, fun G hG => (hsp G (by rw [hall]; simp [hG])).2 (hD G hG), fun G hG => ?_, ho, hw⟩
  cases hb : bef G F' with
  | false => rfl
  | true =>
    have h1 := (hsp G (by rw [hall]; simp [hG])).1 hb
    have h2 := hR G hG
    rcases h1 with h1 | h1
    · rw [h2.1] at h1; cases h1
    · exact absurd h1 h2.2
theorem WsP.last {g : Gm} {F : List Int} {D R : List (List Int)} (hall : allG g = D ++ R) (hR : ∀ G ∈ R, bef G F = false ∧ G ≠ F) (hFl : F.length = g.deps.length) (hFi : InR ((g.starts.length : Int) - 1) F) (hn : nextL ((g.starts.length : Int) - 1) F = none) : D = allG g := by
  have : R = [] := List.eq_nil_iff_forall_not_mem.2 fun G hG => by
    have hm : G ∈ allG g := by rw [hall]; simp [hG]
    have h2 := hR G hG
    rcases (next_spec (by rw [allF_len hm, hFl]) hFi (allF_in hm)).2 hn with h1 | h1
    · rw [h2.1] at h1; cases h1
    · exact h2.2 h1
  rw [hall, this, List.append_nil]
/-- the rest behind the failures that were looked at -/
theorem WsP.rest {g : Gm} {plan : List Pos} {F W : List Int} {m : Int} {D R' : List (List Int)} (h : WsP g plan F W m D (F :: R')) : (∀ G ∈ D ++ [F], bef G F = true ∨ G = F) ∧ ∀ G ∈ R', bef G F = false ∧ G ≠ F := by
  have hp := allF_pw g.starts.length g.deps.length (beginS g)
  have hp2 : (D ++ F :: R').Pairwise (fun F G => bef F G = true) := by rw [← h.all]; exact hp
  refine ⟨fun G hG => ?_, fun G hG => ⟨h.r G (by simp [hG]), fun e => ?_⟩⟩
  · rcases List.mem_append.1 hG with h1 | h1
    · exact .inl (h.d G h1)
    · exact .inr (List.mem_singleton.1 h1)
  · have h1 := (List.pairwise_cons.1 (List.pairwise_append.1 hp2).2.1).1 G hG
    rw [e, bef_irr] at h1
    cases h1
theorem WsP.skip {g : Gm} {plan : List Pos} {F W : List Int} {m : Int} {D R : List (List Int)} (h : WsP g plan F W m D R) (hF : F ∉ allG g) : (∀ G ∈ D, bef G F = true ∨ G = F) ∧ ∀ G ∈ R, bef G F = false ∧ G ≠ F :=
  ⟨fun G hG => .inl (h.d G hG), fun G hG => ⟨h.r G hG, fun e => hF (by rw [h.all, ← e]; simp [hG])⟩⟩
theorem WsP.start (g : Gm) (plan : List Pos) : WsP g plan (List.replicate g.deps.length (-1)) [] (-1) [] (allG g) :=
  ⟨rfl, fun _ h => (by cases h), fun G hG => bef_rep (allF_in hG) (allF_len hG), rfl, rfl⟩
/-! ### is -/
theorem st_is {p : Pos} {s : St} (hl : s.failed.length = s.starts.length) : p.st = s ↔ p.turn = s.turn ∧ p.budget = s.budget ∧ p.starts.length = s.starts.length ∧ p.failed.length = s.starts.length ∧ ∀ i, i < s.starts.length → ig p.starts i = ig s.starts i ∧ bg p.failed i = bg s.failed i := by
  constructor
  · intro h
    rw [← h] at hl ⊢
    exact ⟨rfl, rfl, rfl, hl, fun _ _ => ⟨rfl, rfl⟩⟩
  · rintro ⟨h1, h2, h3, h4, h5⟩
    refine St.ext' h1 (List.ext_getElem h3 fun i k1 k2 => ?_) (List.ext_getElem (by show p.failed.length = _; omega) fun i k1 k2 => ?_) h2
    · rw [← ig_lt k1, ← ig_lt k2]; exact (h5 i k2).1
    · rw [← bg_lt k1, ← bg_lt k2]; exact (h5 i (by omega)).2
set_option maxRecDepth 100000 in
set_option maxHeartbeats 4000000 in
theorem is_any (p : Pos) (psa pfa : Option Addr) (psc pfc : Nat) (s : St) (sa fa : Option Addr) (sc fc : Nat) (w : World) (hP : PsAt w p psa pfa) (hS : Ints w sa s.starts) (hF : Bools w fa s.failed) (hl : s.failed.length = s.starts.length) (hn : s.starts.length ≤ 1000) :
    Calls Try.prog 28 #[psV p psa psc pfa pfc, .int .i64 s.turn, .slice sa s.starts.length sc, .slice fa s.failed.length fc, .int .i64 s.budget] w (RetB (.bool (decide (p.st = s))) w) := by
  have hst := st_is (p := p) hl
  obtain ⟨B, hB⟩ : ∃ B, B = decide (p.st = s) := ⟨_, rfl⟩
  have HBT := Lib.hid (show (p.turn = s.turn ∧ p.budget = s.budget ∧ p.starts.length = s.starts.length ∧ p.failed.length = s.starts.length ∧ ∀ i, i < s.starts.length → ig p.starts i = ig s.starts i ∧ bg p.failed i = bg s.failed i) → B = true from fun h => by rw [hB]; exact decide_eq_true (hst.2 h))
  have HBF := Lib.hid (show ¬ (p.turn = s.turn ∧ p.budget = s.budget ∧ p.starts.length = s.starts.length ∧ p.failed.length = s.starts.length ∧ ∀ i, i < s.starts.length → ig p.starts i = ig s.starts i ∧ bg p.failed i = bg s.failed i) → B = false from fun h => by rw [hB]; exact decide_eq_false fun e => h (hst.1 e))
  rw [← hB]
  obtain ⟨n, hn2⟩ : ∃ n, n = s.starts.length := ⟨_, rfl⟩
  obtain ⟨pn, hpn⟩ : ∃ n, n = p.starts.length := ⟨_, rfl⟩
  obtain ⟨pm, hpm⟩ : ∃ n, n = p.failed.length := ⟨_, rfl⟩
  obtain ⟨pt, hpt⟩ : ∃ n, n = p.turn := ⟨_, rfl⟩
  obtain ⟨pb, hpb⟩ : ∃ n, n = p.budget := ⟨_, rfl⟩
  obtain ⟨pc, hpc⟩ : ∃ n, n = p.choice := ⟨_, rfl⟩
  obtain ⟨pd, hpd⟩ : ∃ n, n = p.bound := ⟨_, rfl⟩
  obtain ⟨st, hs1⟩ : ∃ n, n = s.turn := ⟨_, rfl⟩
  obtain ⟨sb, hs2⟩ : ∃ n, n = s.budget := ⟨_, rfl⟩
  have HPS := Lib.hid hP.s
  have HPF := Lib.hid hP.f
  have HSS := Lib.hid hS
  have HSF := Lib.hid hF
  have HN := Lib.hid (And.intro hn2 (And.intro hl (And.intro hpn hpm)))
  rw [hl]
  unfold psV
  rw [← hpn, ← hpm, ← hpt, ← hpb, ← hpc, ← hpd, ← hs1, ← hs2, ← hn2]
  rw [← hn2] at hn
  simp only [← hpn, ← hpm, ← hpt, ← hpb, ← hs1, ← hs2, ← hn2] at HBT HBF
  clear hP hS hF hl hst hB hn2 hpn hpm hpt hpb hpc hpd hs1 hs2
  go_enter Try.func28, Try.ntmps28
  go_upto_region 1 with fail
  refine wp_named ?_
  intro w1 hw1
  obtain ⟨hb1, -, hx1, -⟩ := alloc1 w [.int .i64 pt, .slice psa pn psc, .slice pfa pm pfc, .int .i64 pb, .int .i64 pc, .int .i64 pd] _ w1 hw1
  have HB1 := Lib.hid hb1
  have HX1 := Lib.hid hx1
  have c0 := (hx1 0 _ rfl).1
  have c1 := (hx1 1 _ rfl).1
  have c2 := (hx1 2 _ rfl).1
  have c3 := (hx1 3 _ rfl).1
  clear hw1 hb1 hx1
  by_cases h1 : ¬ pt = st
  · have e1 : (pt == st) = false := by simpa using h1
    have HO := Lib.hid (HBF.out fun h => h1 h.1)
    go_wp2_with fail
    go_ret
    exact retB (vbool HO.out.symm) HB1.out
  replace h1 : pt = st := Classical.not_not.1 h1
  subst h1
  by_cases h2 : ¬ pb = sb
  · have e1 : (pb == sb) = false := by simpa using h2
    have HO := Lib.hid (HBF.out fun h => h2 h.2.1)
    go_wp2_with fail
    go_ret
    exact retB (vbool HO.out.symm) HB1.out
  replace h2 : pb = sb := Classical.not_not.1 h2
  subst h2
  by_cases h3 : ¬ pn = n
  · have e1 : ((pn : Int) == (n : Int)) = false := by simp; omega
    have e2 : (pn == n) = false := by simpa using h3
    have HO := Lib.hid (HBF.out fun h => h3 h.2.2.1)
    go_wp2_with fail
    go_ret
    exact retB (vbool HO.out.symm) HB1.out
  replace h3 : pn = n := Classical.not_not.1 h3
  subst h3
  by_cases h4 : ¬ pm = pn
  · have e1 : ((pm : Int) == (pn : Int)) = false := by simp; omega
    have e2 : (pm == pn) = false := by simpa using h4
    have HO := Lib.hid (HBF.out fun h => h4 h.2.2.2.1)
    go_wp2_with fail
    go_ret
    exact retB (vbool HO.out.symm) HB1.out
  replace h4 : pm = pn := Classical.not_not.1 h4
  subst h4

  go_wp2_with fail
  clear c0 c1 c2 c3
  go_loopg [11] (pm + 1) (fun gk v11 wr => ∃ (i : Nat), i ≤ pm ∧ gk + i = pm + 1 ∧ v11 = .int .i64 i ∧ Below w1.heap.size w1 wr ∧ ∀ j, j < i → ig p.starts j = ig s.starts j ∧ bg p.failed j = bg s.failed j)
  case atStart => exact ⟨0, by omega, by omega, rfl, Below.refl _ _, fun j h => by omega⟩
  case round =>
    obtain ⟨i, hi, hgi, rfl, hbr, hall⟩ := hrel
    obtain ⟨wq, hwq⟩ : ∃ wq, wq = wr := ⟨_, rfl⟩
    subst hwq
    have HBR := Lib.hid hbr
    have HBW := Lib.hid (HB1.out.trans (hbr.mono HB1.out.size))
    have HALL := Lib.hid hall
    clear hall hbr
    by_cases hlt : i < pm
    · have hN := HN.out
      obtain ⟨b1, o1, rfl, f1⟩ := (HPS.out.later HBW.out).fam (by omega)
      obtain ⟨b2, o2, rfl, f2⟩ := (HSS.out.later HBW.out).fam (by omega)
      obtain ⟨b3, o3, rfl, f3⟩ := (HPF.out.later HBW.out).fam (by omega)
      obtain ⟨b4, o4, rfl, f4⟩ := (HSF.out.later HBW.out).fam (by omega)
      have k1 := f1 i (by omega)
      have k2 := f2 i (by omega)
      have k3 := f3 i (by omega)
      have k4 := f4 i (by omega)
      obtain ⟨u1, hu1⟩ : ∃ u, u = ig p.starts i := ⟨_, rfl⟩
      obtain ⟨u2, hu2⟩ : ∃ u, u = ig s.starts i := ⟨_, rfl⟩
      obtain ⟨u3, hu3⟩ : ∃ u, u = bg p.failed i := ⟨_, rfl⟩
      obtain ⟨u4, hu4⟩ : ∃ u, u = bg s.failed i := ⟨_, rfl⟩
      rw [← hu1] at k1
      rw [← hu2] at k2
      rw [← hu3] at k3
      rw [← hu4] at k4
      have d1 := ((HX1.out.later HBR.out) 1 _ rfl).1
      have d2 := ((HX1.out.later HBR.out) 2 _ rfl).1
      have HU := Lib.hid (And.intro hu1 (And.intro hu2 (And.intro hu3 hu4)))
      have HLT := Lib.hid hlt
      have i1 : (i : Int) < (pm : Int) := by omega
      have i0 : (0 : Int) ≤ (i : Int) := by omega
      have hS : ∀ wy : World, Below wq.heap.size wq wy → (wy.cell? ⟨b1, o1 + i, none⟩ = some (.int .i64 u1) ∧ wy.cell? ⟨b2, o2 + i, none⟩ = some (.int .i64 u2) ∧ wy.cell? ⟨b3, o3 + i, none⟩ = some (.bool u3) ∧ wy.cell? ⟨b4, o4 + i, none⟩ = some (.bool u4)) ∧ wy.cell? ⟨w.heap.size, 1, none⟩ = some (.slice (some ⟨b1, o1, none⟩) pm psc) ∧ wy.cell? ⟨w.heap.size, 2, none⟩ = some (.slice (some ⟨b3, o3, none⟩) pm pfc) := fun wy hy => ⟨⟨cell_later hy k1, cell_later hy k2, cell_later hy k3, cell_later hy k4⟩, cell_later hy d1, cell_later hy d2⟩
      clear hN f1 f2 f3 f4 k1 k2 k3 k4 d1 d2 hu1 hu2 hu3 hu4 hlt
      go_wp2_with fail
      by_cases h12 : u1 = u2
      · have e1 : (u1 == u2) = true := by simpa using h12
        by_cases h34 : u3 = u4
        · have HNX := Lib.hid (show ∀ j, j < i + 1 → ig p.starts j = ig s.starts j ∧ bg p.failed j = bg s.failed j from fun j hj => by
            rcases Nat.lt_succ_iff_lt_or_eq.1 hj with h | h
            · exact HALL.out j h
            · subst h; exact ⟨by rw [← HU.out.1, ← HU.out.2.1, h12], by rw [← HU.out.2.2.1, ← HU.out.2.2.2, h34]⟩)
          subst h34
          have e2 : (u3 == u3) = true := by simp
          refine wp_flow_s [] [] (by kernel_rfl) (by kernel_rfl) (by kernel_rfl) ?_
          repeat (first | ((with_reducible refine Flow.pure hS StayG.nil (v := ?_) ?_ ?_ ?_ ?_); rotate_left 1; (focus kernel_rfl); (focus (intro _; rfl)); (focus (intro β wx hSw; (try dsimp only at hSw); go_simp; (try with_reducible rfl); done)); (try simp only [Act.put, List.setIfInBounds_toArray, List.set_cons_zero, List.set_cons_succ, Nat.reduceAdd])) | ((with_reducible refine Flow.skip StayG.nil ?_ ?_ ?_); (focus kernel_rfl); (focus (intro _; rfl)); (try simp only [Act.put, List.setIfInBounds_toArray, List.set_cons_zero, List.set_cons_succ, Nat.reduceAdd])))
          ((with_reducible refine Flow.stop ?_); dsimp only; intro β w8 hI8)
          have HB8 := Lib.hid (HBR.out.trans (hI8.below.mono HBR.out.size))
          clear hS hI8 h12
          go_wp2_with fail
          go_roundg (pm - i)
          case measure => have := HLT.out; omega
          case rel => exact ⟨i + 1, HLT.out, by have := HLT.out; omega, by go_num, HB8.out, HNX.out⟩
        · have e2 : (u3 == u4) = false := by simpa using h34
          have HO := Lib.hid (HBF.out fun h => h34 (by rw [HU.out.2.2.1, HU.out.2.2.2]; exact (h.2.2.2.2 i HLT.out).2))
          refine wp_flow_s [] [] (by kernel_rfl) (by kernel_rfl) (by kernel_rfl) ?_
          repeat (first | ((with_reducible refine Flow.pure hS StayG.nil (v := ?_) ?_ ?_ ?_ ?_); rotate_left 1; (focus kernel_rfl); (focus (intro _; rfl)); (focus (intro β wx hSw; (try dsimp only at hSw); go_simp; (try with_reducible rfl); done)); (try simp only [Act.put, List.setIfInBounds_toArray, List.set_cons_zero, List.set_cons_succ, Nat.reduceAdd])) | ((with_reducible refine Flow.skip StayG.nil ?_ ?_ ?_); (focus kernel_rfl); (focus (intro _; rfl)); (try simp only [Act.put, List.setIfInBounds_toArray, List.set_cons_zero, List.set_cons_succ, Nat.reduceAdd])))
          ((with_reducible refine Flow.stop ?_); dsimp only; intro β w8 hI8)
          have HB8 := Lib.hid (HBW.out.trans (hI8.below.mono HBW.out.size))
          clear hS hI8
          go_wp2_with fail
          go_ret
          exact retB (vbool HO.out.symm) HB8.out
      · have e1 : (u1 == u2) = false := by simpa using h12
        have e1n : (u1 != u2) = true := by simpa using h12
        have HO := Lib.hid (HBF.out fun h => h12 (by rw [HU.out.1, HU.out.2.1]; exact (h.2.2.2.2 i HLT.out).1))
        refine wp_flow_s [] [] (by kernel_rfl) (by kernel_rfl) (by kernel_rfl) ?_
        repeat (first | ((with_reducible refine Flow.pure hS StayG.nil (v := ?_) ?_ ?_ ?_ ?_); rotate_left 1; (focus kernel_rfl); (focus (intro _; rfl)); (focus (intro β wx hSw; (try dsimp only at hSw); go_simp; (try with_reducible rfl); done)); (try simp only [Act.put, List.setIfInBounds_toArray, List.set_cons_zero, List.set_cons_succ, Nat.reduceAdd])) | ((with_reducible refine Flow.skip StayG.nil ?_ ?_ ?_); (focus kernel_rfl); (focus (intro _; rfl)); (try simp only [Act.put, List.setIfInBounds_toArray, List.set_cons_zero, List.set_cons_succ, Nat.reduceAdd])))
        ((with_reducible refine Flow.stop ?_); dsimp only; intro β w8 hI8)
        have HB8 := Lib.hid (HBW.out.trans (hI8.below.mono HBW.out.size))
        clear hS hI8
        go_wp2_with fail
        go_ret
        exact retB (vbool HO.out.symm) HB8.out
    · obtain rfl : pm = i := by omega
      have HO := Lib.hid (HBT.out (by simpa using HALL.out))
      go_wp2_with fail
      go_ret
      exact retB (vbool HO.out.symm) HBW.out
/-! ### Next -/
theorem flatI_set (l : List Int) (q : Nat) (x : Int) : (l.flatMap EI.cf).set q (.int .i64 x) = (l.set q x).flatMap EI.cf := by
  induction l generalizing q with
  | nil => rfl
  | cons a l ih =>
    cases q with
    | zero => rfl
    | succ q =>
      show (Value.int .i64 a :: l.flatMap EI.cf).set (q + 1) _ = Value.int .i64 a :: (l.set q x).flatMap EI.cf
      rw [List.set_cons_succ, ih]
theorem own_set {w : World} {B g n cap : Nat} {l : List Int} (h : EI.Own w B (.slice (some ⟨g, 0, none⟩) n cap) l) (q : Nat) (x : Int) : EI.Own (w.setCell ⟨g, q, none⟩ (.int .i64 x)) B (.slice (some ⟨g, 0, none⟩) n cap) (l.set q x) := by
  obtain ⟨a, c, e, _⟩ := h.at
  cases e
  have h1 := World.ownsRow.stored h q (.int .i64 x)
  have h2 := h1.1
  unfold El.Own
  rw [flatI_set] at h2
  rw [List.length_set]
  exact h2
theorem calm_set {F : List Int} {i : Nat} (hi : i < F.length) (x : Int) : (calmF F (i + 1)).set i x = F.take i ++ x :: List.replicate (F.length - (i + 1)) (-1) := by
  unfold calmF
  rw [take_snoc hi, List.append_assoc, List.set_append_right _ _ (by rw [List.length_take]; omega)]
  have : i - (F.take i).length = 0 := by rw [List.length_take]; omega
  rw [this]
  rfl
theorem calm_ig {F : List Int} {i : Nat} (hi : i < F.length) : ig (calmF F (i + 1)) i = ig F i := by
  show ig (F.take (i + 1) ++ List.replicate (F.length - (i + 1)) (-1)) i = ig F i
  rw [ig_lt (by simp; omega), ig_lt hi, List.getElem_append_left (by rw [List.length_take]; omega), List.getElem_take]
theorem calm_back {F : List Int} {i : Nat} (hi : i < F.length) : (calmF F (i + 1)).set i (-1) = calmF F i := by
  rw [calm_set hi]
  unfold calmF
  rw [show F.length - i = (F.length - (i + 1)) + 1 by omega, List.replicate_succ]
theorem calm_full (F : List Int) : calmF F F.length = F := by
  unfold calmF
  simp
def RetNx (F : List Int) (m : Int) (w : World) (e : Ending) (w' : World) : Prop := Below w.heap.size w w' ∧
  ((nextL m F = none ∧ e = .returned (.tuple #[.slice none 0 0, .bool false])) ∨ ∃ F' b c, nextL m F = some F' ∧ e = .returned (.tuple #[.slice b F.length c, .bool true]) ∧ EI.At w' b F' ∧ F.length ≤ c)
set_option maxRecDepth 100000 in
set_option maxHeartbeats 4000000 in
theorem next_any (F : List Int) (fa : Option Addr) (fc : Nat) (m : Int) (w : World) (hI : Ints w fa F) (hl : F.length ≤ 1000) (hR : ∀ f ∈ F, -1 ≤ f ∧ f ≤ 1000) (hm : -1 ≤ m ∧ m ≤ 1000) :
    Calls Try.prog 32 #[.slice fa F.length fc, .int .i64 m] w (RetNx F m w) := by
  have HFI := Lib.hid hI
  have HR0 := Lib.hid hR
  obtain ⟨n, hn⟩ : ∃ n, n = F.length := ⟨_, rfl⟩
  have HN := Lib.hid hn
  unfold RetNx
  rw [← hn]
  rw [← hn] at hl
  clear hI hR hn
  go_enter Try.func32, Try.ntmps32
  go_upto_region 1 with fail
  have hnil := El.Own.lit (E := EI) w w.heap.size (Nat.le_refl _) [] (by simp) #[] rfl
  have hEm : Below w.heap.size w (w.alloc (.cells #[] 3)) := (Below.refl _ _).alloc (Nat.le_refl _) _
  obtain ⟨lv, w5, hr, ho, hg, -⟩ := El.app (E := EI) _ w.heap.size _ [] F hnil fa fc ((Ints.el HFI.out).later hEm) (by simp; have := HN.out; omega) (by simp) 22
  rw [← HN.out] at hr
  have ho' : EI.Own w5 w.heap.size lv F := by simpa using ho
  have hb5 : Below w.heap.size w w5 := hEm.grown hg hEm.size (fun b hb => (hnil.lt b hb).1)
  have HR := Lib.hid hr
  have HO5 := Lib.hid ho'
  have HB5 := Lib.hid hb5
  clear hnil hEm hr ho hg ho' hb5
  go_upto_region 2 with (at_builtin; go_loud (refine wpList_app_eq rfl _ _ _ rfl _ _ rfl rfl HR.out ?_))
  obtain ⟨la, lc, hlv, hnc, -, -, -⟩ := HO5.out.at
  rw [← HN.out] at hlv hnc
  subst hlv
  have HNC := Lib.hid hnc
  have wn : IntKind.i64.wrap ((n : Int) - 1) = (n : Int) - 1 := IntWalk.i64_in _ (by omega)
  clear hnc
  go_wp2_with fail
  clear wn
  go_loopg [7] (n + 1) (fun gk v7 wr => ∃ (j : Nat), j ≤ n ∧ gk = j + 1 ∧ v7 = .int .i64 ((j : Int) - 1) ∧ nextL m (F.drop j) = none ∧ EI.Own wr w.heap.size (.slice la n lc) (calmF F j) ∧ Chg (fun k => (Value.slice la n lc).ownBlock = some k) w5 wr)
  case atStart => exact ⟨n, Nat.le_refl _, rfl, rfl, by rw [List.drop_eq_nil_of_le (by rw [HN.out]; exact Nat.le_refl _)]; rfl, by rw [HN.out, calm_full, ← HN.out]; exact HO5.out, Chg.refl _ _⟩
  case round =>
    obtain ⟨j, hj, rfl, rfl, hno, hown, hch⟩ := hrel
    obtain ⟨wq, hwq⟩ : ∃ wq, wq = wr := ⟨_, rfl⟩
    subst hwq
    have hne : ∀ k, (Value.slice la n lc).ownBlock = some k → w.heap.size ≤ k := fun k hk => (HO5.out.lt k hk).1
    have HNE := Lib.hid hne
    have HCH := Lib.hid hch
    have HNO := Lib.hid hno
    cases j with
    | zero =>
      have HBQ := Lib.hid (HB5.out.trans (hch.below HB5.out.size fun k hk => hne k hk))
      clear hown hch hno hne
      go_wp2_with fail
      refine bodyPost_ret (v := .tuple #[.slice none 0 0, .bool false]) (by simp [results, Try.f32, go_sem]) rfl ?_
      exact ⟨HBQ.out, .inl ⟨by have h := HNO.out; rwa [List.drop_zero] at h, rfl⟩⟩
    | succ i =>
      have hiF : i < F.length := by have := HN.out; omega
      obtain ⟨la', lc', hlv, -, -, hat, hcase⟩ := hown.at
      obtain ⟨rfl, -, rfl⟩ := Value.slice.inj hlv
      have hclen := calm_len F (t := i + 1) (by omega)
      have hlb : ∃ gb, la = some ⟨gb, 0, none⟩ := by
        rcases hcase with ⟨_, _, e⟩ | ⟨gb, e, _⟩
        · rw [e] at hclen; simp at hclen; omega
        · exact ⟨gb, e⟩
      obtain ⟨gb, rfl⟩ := hlb
      obtain ⟨_, _, e2, cl⟩ := hat.ints i (by rw [hclen]; exact hiF)
      cases e2
      rw [Nat.zero_add, calm_ig hiF] at cl
      have clf : wq.frozen? ⟨gb, i, none⟩ = false := by
        obtain ⟨cur, hcur⟩ := hown.ty (g := gb) rfl
        simp [World.frozen?, hcur]
      have hfr := HR0.out _ (ig_mem hiF)
      have hdr : F.drop i = ig F i :: F.drop (i + 1) := by rw [List.drop_eq_getElem_cons hiF, ig_lt hiF]
      have hnx := nextL_cons m (ig F i) (F.drop (i + 1))
      rw [HNO.out, ← hdr] at hnx
      simp only at hnx
      obtain ⟨f, hf⟩ : ∃ f, f = ig F i := ⟨_, rfl⟩
      rw [← hf] at cl hfr hnx
      have HNX := Lib.hid hnx
      have HOW := Lib.hid (fun x => own_set hown i x)
      have HIF := Lib.hid hiF
      have hcs : ∀ x : Value, Chg (fun k => (Value.slice (some ⟨gb, 0, none⟩) n lc).ownBlock = some k) w5 (wq.setCell ⟨gb, i, none⟩ x) := fun x => Chg.setCell (S := fun k => (Value.slice (some ⟨gb, 0, none⟩) n lc).ownBlock = some k) hch (p := ⟨gb, i, none⟩) (fun _ => rfl) x
      have HCS := Lib.hid hcs
      have ej : (((i + 1 : Nat) : Int) - 1) = (i : Int) := by omega
      rw [ej]
      have i1 : (i : Int) < (n : Int) := by omega
      have i0 : (0 : Int) ≤ (i : Int) := by omega
      have g0 : decide ((0 : Int) ≤ (i : Int)) = true := decide_eq_true i0
      have wv : IntKind.i64.wrap ((i : Int) - 1) = (i : Int) - 1 := IntWalk.i64_in _ (by omega)
      have wf : IntKind.i64.wrap (f + 1) = f + 1 := IntWalk.i64_in _ (by omega)
      clear hown hch hno hne hlv hat hcase hclen hiF hdr hnx hf hcs ej
      by_cases hfm : f < m
      · have e1 : decide (f < m) = true := decide_eq_true hfm
        have HSO := Lib.hid (show nextL m F = some ((calmF F (i + 1)).set i (f + 1)) from by
          rw [calm_set HIF.out]
          have h1 := HNX.out
          rw [if_pos hfm] at h1
          have h2 := nextL_app h1 (F.take i)
          rw [List.take_append_drop] at h2
          rw [h2, List.length_drop])
        clear hfm
        go_wp2_with fail
        obtain ⟨wz, hwz⟩ : ∃ wz, wz = wq.setCell ⟨gb, i, none⟩ (.int .i64 (f + 1)) := ⟨_, rfl⟩
        rw [← hwz]
        have hoz := HOW.out (f + 1)
        have hcz := HCS.out (.int .i64 (f + 1))
        rw [← hwz] at hoz hcz
        obtain ⟨za, zc, hzv, -, -, hzat, -⟩ := hoz.at
        obtain ⟨rfl, -, -⟩ := Value.slice.inj hzv
        refine bodyPost_ret (v := .tuple #[.slice (some ⟨gb, 0, none⟩) n lc, .bool true]) (by simp [results, Try.f32, go_sem]) rfl ?_
        exact ⟨HB5.out.trans (hcz.below HB5.out.size fun k hk => HNE.out k hk), .inr ⟨_, _, _, HSO.out, rfl, hzat, HNC.out⟩⟩
      · have e1 : decide (f < m) = false := decide_eq_false hfm
        have HSO := Lib.hid (show nextL m (F.drop i) = none from by
          have h1 := HNX.out
          rwa [if_neg hfm] at h1)
        clear hfm wf
        go_wp2_with fail
        go_roundg (i + 1)
        case measure => omega
        case rel => exact ⟨i, by omega, rfl, rfl, HSO.out, by rw [← calm_back HIF.out]; exact HOW.out (-1), HCS.out _⟩
/-! ### Lost -/
theorem info_bool : (Try.prog.info? 4).map (fun i => (i.zero, i.size, i.bytes)) = some (some (.bool false), 1, 1) := by kernel_rfl
theorem mk_bools (n : Nat) (hn : n ≤ 1000000) (w : World) : (Instr.makeSlice 40 (.int .i64 n) (.int .i64 n)).run Try.prog w = .ok (.slice (some ⟨w.heap.size, 0, none⟩) n n) (w.alloc (.cells (List.replicate n (Value.bool false)).toArray 4)) := by
  obtain ⟨i0, hi, hz0, hz1, hz2⟩ := info_parts info_bool
  have hr := run_make (P := Try.prog) w 40 4 i0 (.bool false) Try.underlying40 hi hz0 .i64 .i64 n n (by omega) (Int.le_refl _) (by rw [hz2]; omega) (by omega)
  simp only [Int.toNat_natCast] at hr
  rw [hr]
  have e : madeCells (Value.cells (.bool false)) (n * i0.size) = (List.replicate n (Value.bool false)).toArray := by
    rw [hz1, Nat.mul_one]
    apply Array.toList_inj.1
    exact toList_madeCells_one _ _
  rw [e]
def turn2 (g : Gm) (plan : List Pos) (s : St) : Except Int (St × Int) :=
  match posAt plan s with
  | none => .error 2
  | some p => if p.choice = -1 then .ok (afterS s (-1), 1) else if canQ g s p.choice then .ok (afterS s p.choice, 0) else .error 5
theorem turn2_dom {g : Gm} (hv : VG g) {plan : List Pos} {s : St} (hD : Dom g s) (ht : s.turn < g.deps.length) {y : St × Int} (hy : turn2 g plan s = .ok y) : Dom g y.1 ∧ y.1.turn = s.turn + 1 ∧ y.1.budget = s.budget := by
  have h := (turn_dom hv (plan := plan) (f := -1) hD ht (by rw [if_neg (by omega)]; exact hD.b1) (.inl rfl)).2 y hy
  exact ⟨h.1, h.2.1, by have h3 := h.2.2.1; rw [if_neg (by omega)] at h3; omega⟩
theorem turn2_no {g : Gm} {plan : List Pos} {s : St} {p : Pos} (hp : posAt plan s = some p) (h1 : p.choice ≠ -1) (h2 : ¬ canQ g s p.choice) : turn2 g plan s = .error 5 := by
  unfold turn2
  rw [hp]
  simp only
  rw [if_neg h1, if_neg h2]
theorem turn2_yes {g : Gm} {plan : List Pos} {s : St} {p : Pos} (hp : posAt plan s = some p) (h1 : p.choice ≠ -1) (h2 : canQ g s p.choice) : turn2 g plan s = .ok (afterS s p.choice, 0) := by
  unfold turn2
  rw [hp]
  simp only
  rw [if_neg h1, if_pos h2]
theorem turn2_none {g : Gm} {plan : List Pos} {s : St} {p : Pos} (hp : posAt plan s = some p) (h1 : p.choice = -1) : turn2 g plan s = .ok (afterS s (-1), 1) := by
  unfold turn2
  rw [hp]
  simp only
  rw [if_pos h1]
theorem bools_at {w : World} {b : Nat} {l : List Bool} (h : BoxAt w b (l.map Value.bool)) : Bools w (some ⟨b, 0, none⟩) l := fun j hj => by
  refine ⟨b, 0, rfl, ?_⟩
  have := (h j (.bool (bg l j)) (by rw [List.getElem?_map, List.getElem?_eq_getElem hj, ← bg_lt hj]; rfl)).1
  rw [Nat.zero_add]
  exact this
theorem posAt_drop {plan : List Pos} {i : Nat} (hi : i < plan.length) (s : St) : posAt (plan.drop i) s = if plan[i].st = s then some plan[i] else posAt (plan.drop (i + 1)) s := by
  rw [List.drop_eq_getElem_cons hi]
  unfold posAt
  rw [List.find?_cons]
  by_cases h : plan[i].st = s
  · rw [if_pos h, decide_eq_true h]
  · rw [if_neg h, decide_eq_false h]
set_option maxRecDepth 100000 in
set_option maxHeartbeats 8000000 in
theorem rlost_any (g : Gm) (sa da : Option Addr) (sc dc : Nat) (l : List PA) (a : Option Addr) (c : Nat) (F : List Int) (fa : Option Addr) (fc : Nat) (w : World) (hG : GmAt w g sa da) (hB : GmBig g) (hL : LaP w a l) (hll : l.length ≤ 400) (hFi : Ints w fa F) (hFl : F.length ≤ 1000) (hfc : F.length ≤ fc) :
    Calls Try.prog 12 #[gmV g sa sc da dc, .slice a l.length c, .slice fa F.length fc] w (RetB (.tuple #[.int .i64 (lostN g (l.map (·.1)) F).1, .int .i64 (lostN g (l.map (·.1)) F).2]) w) := by
  have hva := fun wy (hy : Below w.heap.size w wy) => rvalidG_any g sa da sc dc wy (hG.later hy) hB
  have hal := fun (h : VG g) wy (hy : Below w.heap.size w wy) => allowed_any g sa da sc dc F fa fc wy (hG.later hy) h.1 (hFi.later hy) hFl hfc
  obtain ⟨n, hn⟩ : ∃ n, n = g.starts.length := ⟨_, rfl⟩
  obtain ⟨nd, hnd⟩ : ∃ n, n = g.deps.length := ⟨_, rfl⟩
  obtain ⟨bu, hbu⟩ : ∃ n, n = g.budget := ⟨_, rfl⟩
  obtain ⟨nf, hnf⟩ : ∃ n, n = F.length := ⟨_, rfl⟩
  obtain ⟨ll, hlq⟩ : ∃ n, n = l.length := ⟨_, rfl⟩
  obtain ⟨X, hX⟩ : ∃ X, X = lostN g (l.map (·.1)) F := ⟨_, rfl⟩
  simp only [gmV, ← hn, ← hnd, ← hbu, ← hnf] at hva hal ⊢
  rw [← hX, ← hlq]
  rw [← hlq] at hll
  rw [← hnf] at hFl hfc
  have HVA := Lib.hid hva
  have HAL := Lib.hid hal
  have HG := Lib.hid hG
  have HL := Lib.hid hL
  have HFI := Lib.hid hFi
  have HN := Lib.hid (And.intro hn (And.intro hnd (And.intro hbu (And.intro hnf hlq))))
  have HX := Lib.hid hX
  clear hva hal hG hB hL hFi hn hnd hbu hnf hlq hX
  go_enter Try.func12, Try.ntmps12
  go_upto_region 1 with fail
  refine wp_named ?_
  intro w1 hw1
  obtain ⟨hb1, -, hx1, -⟩ := alloc1 w [.slice sa n sc, .slice da nd dc, .int .i64 bu] _ w1 hw1
  have HB1 := Lib.hid hb1
  have HX1 := Lib.hid hx1
  have c0 := (hx1 0 _ rfl).1
  have c1 := (hx1 1 _ rfl).1
  have c2 := (hx1 2 _ rfl).1
  clear hw1 hb1 hx1
  go_wp2_with fail
  refine Calls.mono (HVA.out w1 HB1.out) ?_
  rintro e w2 ⟨rfl, hb2⟩
  have HB2 := Lib.hid (HB1.out.trans (hb2.mono HB1.out.size))
  have HX2 := Lib.hid (HX1.out.later hb2)
  clear c0 c1 c2 hb2
  have c0 := (HX2.out 0 _ rfl).1
  have c1 := (HX2.out 1 _ rfl).1
  have c2 := (HX2.out 2 _ rfl).1
  rcases Classical.em (¬ VG g) with hv | hv
  · have HO := Lib.hid (show X = (0, 1) from by rw [HX.out]; exact lostN_no fun h => hv h.1)
    rw [vgB_false hv]
    clear hv
    go_wp2_with fail
    refine bodyPost_ret (v := .tuple #[.int .i64 0, .int .i64 1]) (by simp [results, Try.f12, go_sem]) rfl ?_
    exact retB (by rw [HO.out]) HB2.out
  replace hv : VG g := Classical.not_not.1 hv
  have HV := Lib.hid hv
  have hal2 := HAL.out hv w2 HB2.out
  rw [vgB_true hv]
  have HAL2 := Lib.hid hal2
  have hn6 : n ≤ 6 := by rw [HN.out.1]; exact hv.1
  have hnd12 : nd ≤ 12 := by rw [HN.out.2.1]; exact hv.2.1
  have hbu3 : 0 ≤ bu ∧ bu ≤ 3 := by rw [HN.out.2.2.1]; exact ⟨hv.2.2.1, hv.2.2.2.1⟩
  clear hv hal2
  go_wp2_with fail
  refine Calls.mono HAL2.out ?_
  rintro e w3 ⟨rfl, hb3⟩
  have HB3 := Lib.hid (HB2.out.trans (hb3.mono HB2.out.size))
  have HX3 := Lib.hid (HX2.out.later hb3)
  clear c0 c1 c2 hb3
  have c0 := (HX3.out 0 _ rfl).1
  have c1 := (HX3.out 1 _ rfl).1
  have c2 := (HX3.out 2 _ rfl).1
  rcases Classical.em (¬ AllowG g F) with hA | hA
  · have HO := Lib.hid (show X = (0, 1) from by rw [HX.out]; exact lostN_no fun h => hA h.2)
    rw [allowB_false hA]
    clear hA
    go_wp2_with fail
    refine bodyPost_ret (v := .tuple #[.int .i64 0, .int .i64 1]) (by simp [results, Try.f12, go_sem]) rfl ?_
    exact retB (by rw [HO.out]) HB3.out
  replace hA : AllowG g F := Classical.not_not.1 hA
  rw [allowB_true hA]
  obtain ⟨RS, hRS⟩ : ∃ R, R = lostL g (l.map (·.1)) F (beginS g) 0 := ⟨_, rfl⟩
  have HRES := Lib.hid (show ∀ r, RS = r → X = (match r with
    | .ok n => (n, 0)
    | .error e => (0, e)) from fun r hr => by rw [HX.out, lostN_yes ⟨HV.out, hA⟩, ← hRS, hr]; cases r <;> rfl)
  have hnfd : nf = nd := by rw [HN.out.2.2.2.1, HN.out.2.1]; exact hA.1
  have hcnt : cntF F ≤ bu ∧ ∀ f ∈ F, f = -1 ∨ ∃ v : Nat, f = v ∧ v < n := by
    obtain ⟨_, x, hx, hb⟩ := hA
    obtain ⟨h1, h2⟩ := fail_cnt hx
    rw [HN.out.1, HN.out.2.2.1]
    exact ⟨by have h1' : x.2 = 0 + cntF F := h1; omega, h2⟩
  have HCN := Lib.hid hcnt
  have HR0 := Lib.hid (show RS = lostL g (l.map (·.1)) (F.drop 0) (beginS g) 0 from by rw [List.drop_zero]; exact hRS)
  have HNFD := Lib.hid hnfd
  clear hA hRS hcnt hnfd
  have hnil := El.Own.lit (E := EI) w3 w3.heap.size (Nat.le_refl _) [] (by simp) #[] rfl
  have hEm : Below w3.heap.size w3 (w3.alloc (.cells #[] 3)) := (Below.refl _ _).alloc (Nat.le_refl _) _
  obtain ⟨lv, w5, hr, ho, hg, -⟩ := El.app (E := EI) _ w3.heap.size _ [] g.starts hnil sa sc ((Ints.el (HG.out.later HB3.out).s).later hEm) (by simp; have := HN.out.1; omega) (by simp) 22
  rw [← HN.out.1] at hr
  have ho' : EI.Own w5 w3.heap.size lv g.starts := by simpa using ho
  have hb5 : Below w3.heap.size w3 w5 := hEm.grown hg hEm.size (fun b hb => (hnil.lt b hb).1)
  have HR := Lib.hid hr
  have HO5 := Lib.hid ho'
  have HB5 := Lib.hid (HB3.out.trans (hb5.mono HB3.out.size))
  have HX5 := Lib.hid (HX3.out.later hb5)
  have HBL5 := Lib.hid hb5.size
  clear hnil hEm hr ho hg ho' hb5
  have lx3 := HX3.out.lt
  go_upto_region 4 with (at_builtin; go_loud (refine wpList_app_eq rfl _ _ _ rfl _ _ rfl rfl HR.out ?_))
  obtain ⟨la, lc, hlv, -, -, -, -⟩ := HO5.out.at
  rw [← HN.out.1] at hlv
  subst hlv
  clear c0 c1 c2 lx3
  have hmk := mk_bools n (by omega)
  have c2 := (HX5.out 2 _ rfl).1
  go_upto_region 5 with fail
  refine wp_named ?_
  intro w6 hw6
  obtain ⟨hb6, hs6, hx6, -⟩ := alloc1 w5 (List.replicate n (Value.bool false)) 4 w6 hw6
  obtain ⟨Fb, hFb⟩ : ∃ B, B = w5.heap.size := ⟨_, rfl⟩
  rw [← hFb] at hx6 ⊢
  have HB6 := Lib.hid (HB5.out.trans (hb6.mono HB5.out.size))
  have HX6 := Lib.hid (HX5.out.later hb6)
  have HO6 := Lib.hid (HO5.out.later hb6)
  have hxf : BoxAt w6 Fb ((beginS g).failed.map Value.bool) := by
    show BoxAt w6 Fb ((List.replicate g.starts.length false).map Value.bool)
    rw [List.map_replicate, ← HN.out.1]
    exact hx6
  have HF6 := Lib.hid hxf
  have HFB := Lib.hid (show w3.heap.size ≤ Fb ∧ w.heap.size < w3.heap.size ∧ Fb < w6.heap.size ∧ ∀ k, (Value.slice la n lc).ownBlock = some k → w3.heap.size ≤ k ∧ k ≠ Fb from ⟨by rw [hFb]; exact HBL5.out, HX3.out.lt, by omega, fun k hk => by have h := HO5.out.lt k hk; omega⟩)
  have HML := Lib.hid (show l.length ≤ 400 from by rw [← HN.out.2.2.2.2]; exact hll)
  have HLO := Lib.hid (show ∀ k, ((Value.slice la n lc).ownBlock = some k ∨ k = Fb) → w.heap.size ≤ k from fun k hk => by
    have h := HFB.out
    rcases hk with h1 | h1
    · have := (h.2.2.2 k h1).1; omega
    · omega)
  clear hb6 hs6 hx6 hxf hFb hmk c2 hw6
  have c2 := (HX6.out 2 _ rfl).1
  go_wp2_with fail
  clear c2
  go_loopg [10, 11, 12] (nf + 1) (fun gk v10 v11 v12 wr => ∃ (j : Nat) (s : St) (x : Int), j ≤ nf ∧ gk + j = nf + 1 ∧ v12 = .int .i64 j ∧ v11 = .int .i64 x ∧ v10 = .int .i64 s.budget ∧ 0 ≤ x ∧ x ≤ j ∧ Dom g s ∧ s.turn = j ∧ cntF (F.drop j) ≤ s.budget ∧ RS = lostL g (l.map (·.1)) (F.drop j) s x ∧ EI.Own wr w3.heap.size (.slice la n lc) s.starts ∧ BoxAt wr Fb (s.failed.map Value.bool) ∧ Chg (fun k => (Value.slice la n lc).ownBlock = some k ∨ k = Fb) w6 wr)
  case atStart => exact ⟨0, beginS g, 0, by omega, by omega, rfl, rfl, by rw [HN.out.2.2.1]; rfl, Int.le_refl _, Int.le_refl _, Dom.begin HV.out, rfl, by rw [List.drop_zero]; have h := HCN.out.1; rw [HN.out.2.2.1] at h; exact h, HR0.out, HO6.out, HF6.out, Chg.refl _ _⟩
  case round =>
    obtain ⟨j, s, x, hj, hgj, rfl, rfl, rfl, hx0, hxj, hD, hst, hcb, hrs, hown, hfb, hch⟩ := hrel
    obtain ⟨wq, hwq⟩ : ∃ wq, wq = wr := ⟨_, rfl⟩
    subst hwq
    have HD := Lib.hid hD
    have HST := Lib.hid hst
    have HCB := Lib.hid hcb
    have HR2 := Lib.hid hrs
    have HOQ := Lib.hid hown
    have HFQ := Lib.hid hfb
    have HCQ := Lib.hid hch
    have HBQ := Lib.hid (HB6.out.trans (hch.below HB6.out.size HLO.out))
    clear hD hst hcb hrs hown hfb hch
    by_cases hlt : j < nf
    · have hjF : j < F.length := by have := HN.out.2.2.2.1; omega
      obtain ⟨eb, eo, rfl, fp⟩ := HFI.out.fam (by omega)
      have kq := cell_later HBQ.out (fp j hjF)
      have hdr : F.drop j = ig F j :: F.drop (j + 1) := by rw [List.drop_eq_getElem_cons hjF, ig_lt hjF]
      have hff := HCN.out.2 (ig F j) (ig_mem hjF)
      obtain ⟨f, hf⟩ : ∃ f, f = ig F j := ⟨_, rfl⟩
      rw [← hf] at kq hdr hff
      have hcb := HCB.out
      rw [hdr] at hcb
      have hcn := cntF_nonneg (F.drop (j + 1))
      have hcb2 : (if 0 ≤ f then 1 else 0) + cntF (F.drop (j + 1)) ≤ s.budget := hcb
      have htl : s.turn < g.deps.length := by rw [HST.out, ← HN.out.2.1, ← HNFD.out]; omega
      obtain ⟨hd2, htd⟩ := turn_dom HV.out (plan := l.map (·.1)) (f := f) HD.out htl (by omega) (by rw [← HN.out.1]; exact hff)
      have hrs := HR2.out
      rw [hdr, lostL_cons] at hrs
      have HRT := Lib.hid (show RS = match turn2 g (l.map (·.1)) (hitF s f) with
        | .error e => .error e
        | .ok y => lostL g (l.map (·.1)) (F.drop (j + 1)) y.1 (x + y.2) from hrs)
      have HTD := Lib.hid htd
      have HD2 := Lib.hid hd2
      have HCN2 := Lib.hid hcb2
      have HLT := Lib.hid hlt
      have j1 : (j : Int) < (nf : Int) := by omega
      have j0 : (0 : Int) ≤ (j : Int) := by omega
      have wj : IntKind.i64.wrap ((j : Int) + 1) = (j : Int) + 1 := IntWalk.i64_in _ (by omega)
      have wx : IntKind.i64.wrap (x + 1) = x + 1 := IntWalk.i64_in _ (by omega)
      clear fp hdr hcb hcn hcb2 htl hd2 htd hrs hf hjF hlt
      rcases hff with hf1 | ⟨v, hfv, hvn⟩
      · subst hf1
        obtain ⟨s2, hs2⟩ : ∃ s2, s2 = s := ⟨_, rfl⟩
        obtain ⟨wz, hwz⟩ : ∃ wz, wz = wq := ⟨_, rfl⟩
        have g1 : decide ((0 : Int) ≤ -1) = false := by decide
        rw [← hs2, ← hwz]
        have HDz := Lib.hid (show Dom g s2 from by rw [hs2]; exact HD.out)
        have HTz := Lib.hid (show s2.turn = (j : Int) from by rw [hs2]; exact HST.out)
        have HRz := Lib.hid (show RS = match turn2 g (l.map (·.1)) s2 with
          | .error e => .error e
          | .ok y => lostL g (l.map (·.1)) (F.drop (j + 1)) y.1 (x + y.2) from by rw [hs2]; exact HRT.out)
        have HOz := Lib.hid (show EI.Own wz w3.heap.size (.slice la n lc) s2.starts from by rw [hs2, hwz]; exact HOQ.out)
        have HFz := Lib.hid (show BoxAt wz Fb (s2.failed.map Value.bool) from by rw [hs2, hwz]; exact HFQ.out)
        have HCz := Lib.hid (show Chg (fun k => (Value.slice la n lc).ownBlock = some k ∨ k = Fb) w6 wz from by rw [hwz]; exact HCQ.out)
        have HBb := Lib.hid (show cntF (F.drop (j + 1)) ≤ s2.budget from by have h := HCN2.out; rw [if_neg (by omega)] at h; rw [hs2]; omega)
        rw [← hwz] at kq
        clear hs2 hwz
        go_wp2_with fail
        clear kq g1
        have hml2 := HML.out
        have HBz := Lib.hid (HB6.out.trans (HCz.out.below HB6.out.size HLO.out))
        have hD := HDz.out
        have hln : s2.starts.length = n := by rw [hD.ls, HN.out.1]
        have hlf : s2.failed.length = n := by rw [hD.lf, HN.out.1]
        obtain ⟨bz, hbz⟩ : ∃ b, b = s2.budget := ⟨_, rfl⟩
        rw [← hbz]
        have his : ∀ (x : PA), x ∈ l → ∀ wy, Below wz.heap.size wz wy → Calls Try.prog 28 #[psV x.1 x.2.1 x.2.2.1 x.2.2.2.1 x.2.2.2.2, .int .i64 (j : Int), .slice la n lc, .slice (some ⟨Fb, 0, none⟩) n n, .int .i64 bz] wy (RetB (.bool (decide (x.1.st = s2))) wy) := fun x hx wy hy => by
          have h := is_any x.1 x.2.1 x.2.2.2.1 x.2.2.1 x.2.2.2.2 s2 la (some ⟨Fb, 0, none⟩) lc n wy (((HL.out.later HBz.out).later hy).ps x hx) (by
            obtain ⟨ya, yc, yv, -, -, yat, -⟩ := (HOz.out.later hy).at
            obtain ⟨rfl, -, -⟩ := Value.slice.inj yv
            exact yat.ints) (bools_at (HFz.out.later hy)) (by rw [hlf, hln]) (by omega)
          rw [hln, hlf, HTz.out, ← hbz] at h
          exact h
        have HIS := Lib.hid his
        have HLNF := Lib.hid (And.intro hln hlf)
        have HBZE := Lib.hid hbz
        clear his hln hlf hbz hD hml2
        go_wp2_with fail
        go_loopg [13] (ll + 1) (fun gk v13 wr => ∃ (i : Nat), i ≤ ll ∧ gk + i = ll + 1 ∧ v13 = .int .i64 i ∧ Below wz.heap.size wz wr ∧ posAt (l.map (·.1)) s2 = posAt ((l.map (·.1)).drop i) s2)
        case atStart => exact ⟨0, by omega, by omega, rfl, Below.refl _ _, by rw [List.drop_zero]⟩
        case round =>
          obtain ⟨i, hi, hgi, rfl, hbr, hpo⟩ := hrel
          obtain ⟨wv, hwv⟩ : ∃ wv, wv = wr := ⟨_, rfl⟩
          subst hwv
          have HBR := Lib.hid hbr
          have HPO := Lib.hid hpo
          have HBV := Lib.hid (HBz.out.trans (hbr.mono HBz.out.size))
          clear hbr hpo
          by_cases hlt2 : i < ll
          · have hiL : i < l.length := by have := HN.out.2.2.2.2; omega
            have hLq := HL.out.later HBV.out
            obtain ⟨pb0, off, rfl, _⟩ := hLq.at'.head (by omega)
            have hrng := hLq.at'.range hiL
            rw [show off + i * EQ.S = off + i * 6 from rfl] at hrng
            have hdp := posAt_drop (plan := l.map (·.1)) (i := i) (by simpa using hiL) s2
            rw [List.getElem_map] at hdp
            have hxm := List.getElem_mem hiL
            obtain ⟨x', hx'⟩ : ∃ x, x = l[i] := ⟨_, rfl⟩
            rw [← hx'] at hrng hdp hxm
            have hic := fun wy hy => HIS.out x' hxm wy hy
            obtain ⟨p, psa, psc, pfa, pfc⟩ := x'
            simp only at hdp hic
            obtain ⟨pn, hpn⟩ : ∃ n, n = p.starts.length := ⟨_, rfl⟩
            obtain ⟨pm, hpm⟩ : ∃ n, n = p.failed.length := ⟨_, rfl⟩
            obtain ⟨pt, hpt⟩ : ∃ n, n = p.turn := ⟨_, rfl⟩
            obtain ⟨pb, hpb2⟩ : ∃ n, n = p.budget := ⟨_, rfl⟩
            obtain ⟨pc, hpc⟩ : ∃ n, n = p.choice := ⟨_, rfl⟩
            obtain ⟨pd, hpd⟩ : ∃ n, n = p.bound := ⟨_, rfl⟩
            have hrng' : wv.rangeAt pb0 (off + i * 6) [.int .i64 pt, .slice psa pn psc, .slice pfa pm pfc, .int .i64 pb, .int .i64 pc, .int .i64 pd] := by rw [hpn, hpm, hpt, hpb2, hpc, hpd]; exact hrng
            simp only [psV, ← hpn, ← hpm, ← hpt, ← hpb2, ← hpc, ← hpd] at hic
            have x0 : wv.cell? ⟨pb0, off + i * 6, none⟩ = some (.int .i64 pt) := hrng' 0 _ rfl
            have x1 : wv.cell? ⟨pb0, off + i * 6 + 1, none⟩ = some (.slice psa pn psc) := hrng' 1 _ rfl
            have x2 : wv.cell? ⟨pb0, off + i * 6 + 2, none⟩ = some (.slice pfa pm pfc) := hrng' 2 _ rfl
            have x3 : wv.cell? ⟨pb0, off + i * 6 + 3, none⟩ = some (.int .i64 pb) := hrng' 3 _ rfl
            have x4 : wv.cell? ⟨pb0, off + i * 6 + 4, none⟩ = some (.int .i64 pc) := hrng' 4 _ rfl
            have x5 : wv.cell? ⟨pb0, off + i * 6 + 5, none⟩ = some (.int .i64 pd) := hrng' 5 _ rfl
            obtain ⟨bm, hbm⟩ : ∃ b, b = decide (p.st = s2) := ⟨_, rfl⟩
            rw [← hbm] at hic
            have HIC := Lib.hid (hic wv HBR.out)
            have HDP := Lib.hid hdp
            have HBM := Lib.hid hbm
            have HPC := Lib.hid hpc
            have HLT2 := Lib.hid hlt2
            have k1 : (i : Int) < (ll : Int) := by omega
            have k0 : (0 : Int) ≤ (i : Int) := by omega
            have kd : decide ((i : Int) < (ll : Int)) = true := decide_eq_true k1
            have kn1 : ((i : Int) == (ll : Int)) = false := by simp; omega
            have kn2 : (i == ll) = false := by simp; omega
            have wi : IntKind.i64.wrap ((i : Int) + 1) = (i : Int) + 1 := IntWalk.i64_in _ (by omega)
            clear hiL hLq hrng hrng' hdp hxm hx' hpn hpm hpt hpb2 hpc hpd hic hbm hlt2
            go_wp2_with fail
            refine Calls.mono HIC.out ?_
            rintro e w8 ⟨rfl, hb8⟩
            have HB8 := Lib.hid (HBR.out.trans (hb8.mono HBR.out.size))
            have y4 := cell_later hb8 x4
            clear hb8 x0 x1 x2 x3 x4 x5
            cases bm
            · have HNP := Lib.hid (show posAt (l.map (·.1)) s2 = posAt ((l.map (·.1)).drop (i + 1)) s2 from by rw [HPO.out, HDP.out, if_neg (of_decide_eq_false HBM.out.symm)])
              clear y4
              go_wp2_with fail
              go_roundg (ll - i)
              case measure => have := HLT2.out; omega
              case rel => exact ⟨i + 1, HLT2.out, by have := HLT2.out; omega, by go_num, HB8.out, HNP.out⟩
            · have HPA := Lib.hid (show posAt (l.map (·.1)) s2 = some p from by rw [HPO.out, HDP.out, if_pos (of_decide_eq_true HBM.out.symm)])
              have HC8 := Lib.hid (HCz.out.trans (Chg.of_below HB8.out))
              have HO8 := Lib.hid (HOz.out.later HB8.out)
              have HF8 := Lib.hid (HFz.out.later HB8.out)
              have HBW8 := Lib.hid (HBz.out.trans (HB8.out.mono HBz.out.size))
              have HTV := Lib.hid (fun y => turn2_dom HV.out (plan := l.map (·.1)) HDz.out (show s2.turn < g.deps.length from by rw [HTz.out, ← HN.out.2.1, ← HNFD.out]; omega) (y := y))
              have HERR := Lib.hid (show pc ≠ -1 → ¬ canQ g s2 pc → X = (0, 5) from fun h1 h2 => by
                have h := HRz.out
                rw [turn2_no HPA.out (by rw [← HPC.out]; exact h1) (by rw [← HPC.out]; exact h2)] at h
                exact HRES.out _ h)
              by_cases hm1 : pc = -1
              · have e1 : (pc == (-1 : Int)) = true := by simpa using hm1
                have ht2 := turn2_none (g := g) HPA.out (by rw [← HPC.out]; exact hm1)
                have HT2 := Lib.hid (HTV.out _ ht2)
                have HRN := Lib.hid (show RS = lostL g (l.map (·.1)) (F.drop (j + 1)) (afterS s2 (-1)) (x + 1) from by have h := HRz.out; rw [ht2] at h; exact h)
                clear hm1 ht2
                go_wp2_with fail
                go_roundg (nf - j)
                case measure => have := HLT.out; omega
                case rel => exact ⟨j + 1, afterS s2 (-1), x + 1, HLT.out, by have := HLT.out; omega, by go_num, rfl, by rw [HBZE.out]; rfl, by omega, by omega, HT2.out.1, by rw [HT2.out.2.1, HTz.out]; rfl, by rw [HT2.out.2.2]; exact HBb.out, HRN.out, HO8.out, HF8.out, HC8.out⟩
              have e1 : (pc == (-1 : Int)) = false := by simpa using hm1
              by_cases hneg : pc < 0
              · have e2 : decide (pc < 0) = true := decide_eq_true hneg
                have HO := Lib.hid (HERR.out hm1 fun h => by
                  have h3 := (okDep_domG (HV.out.2.2.2.2.2 s2.turn.toNat (by rw [HTz.out, Int.toNat_natCast, ← HN.out.2.1, ← HNFD.out]; exact HLT.out)) h.1).1
                  omega)
                clear hm1 hneg
                go_wp2_with fail
                refine bodyPost_ret (v := .tuple #[.int .i64 0, .int .i64 5]) (by simp [results, Try.f12, go_sem]) rfl ?_
                exact retB (by rw [HO.out]) HBW8.out
              have e2 : decide (pc < 0) = false := decide_eq_false hneg
              by_cases hge : (n : Int) ≤ pc
              · have e3 : decide ((n : Int) ≤ pc) = true := decide_eq_true hge
                have HO := Lib.hid (HERR.out hm1 fun h => by
                  have h3 := (okDep_domG (HV.out.2.2.2.2.2 s2.turn.toNat (by rw [HTz.out, Int.toNat_natCast, ← HN.out.2.1, ← HNFD.out]; exact HLT.out)) h.1).2
                  rw [← HN.out.1] at h3
                  omega)
                clear hm1 hneg hge
                go_wp2_with fail
                refine bodyPost_ret (v := .tuple #[.int .i64 0, .int .i64 5]) (by simp [results, Try.f12, go_sem]) rfl ?_
                exact retB (by rw [HO.out]) HBW8.out
              have e3 : decide ((n : Int) ≤ pc) = false := decide_eq_false hge
              obtain ⟨kn, hkn⟩ : ∃ kn : Nat, pc = kn := ⟨pc.toNat, by omega⟩
              subst hkn
              have hknn : kn < n := by omega
              have e3n : decide (n ≤ kn) = false := decide_eq_false (by omega)
              obtain ⟨db, doff, ra, rc, rfl, hrow, hI⟩ := HG.out.d j (by rw [← HN.out.2.1, ← HNFD.out]; exact HLT.out)
              have hcan : canQ g s2 (kn : Int) ↔ ((kn : Int) ∈ g.deps.getD j [] ∧ bg s2.failed kn = false ∧ ¬ ig s2.starts kn = 0) := by
                unfold canQ dg
                rw [HTz.out, Int.toNat_natCast, Int.toNat_natCast]
              have hrlen : (g.deps.getD j []).length < 9223372036854775808 := by
                have h3 := okDep_len (HV.out.2.2.2.2.2 j (by rw [← HN.out.2.1, ← HNFD.out]; exact HLT.out))
                have h4 : (g.deps.getD j []).length ≤ g.starts.length := h3
                have h5 := HN.out.1
                omega
              have hin := in_any (g.deps.getD j []) ra rc kn w8 (hI.later HBW8.out) hrlen
              have k3 := cell_later HBW8.out hrow
              obtain ⟨dl, hdl⟩ : ∃ d, d = g.deps.getD j [] := ⟨_, rfl⟩
              rw [← hdl] at hcan hin k3
              obtain ⟨dn, hdn⟩ : ∃ n, n = dl.length := ⟨_, rfl⟩
              rw [← hdn] at hin k3
              obtain ⟨isin, his⟩ : ∃ b, b = decide ((kn : Int) ∈ dl) := ⟨_, rfl⟩
              rw [← his] at hin
              obtain ⟨bf, hbf⟩ : ∃ b, b = bg s2.failed kn := ⟨_, rfl⟩
              obtain ⟨sv, hsv⟩ : ∃ b, b = ig s2.starts kn := ⟨_, rfl⟩
              rw [← hbf, ← hsv] at hcan
              obtain ⟨k4, -⟩ := HF8.out kn (.bool bf) (by rw [List.getElem?_map, List.getElem?_eq_getElem (by rw [HLNF.out.2]; exact hknn), ← bg_lt, ← hbf]; rfl)
              obtain ⟨ya, yc, yv, -, -, yat, ycase⟩ := HO8.out.at
              obtain ⟨rfl, -, rfl⟩ := Value.slice.inj yv
              have hlb : ∃ gb, la = some ⟨gb, 0, none⟩ := by
                rcases ycase with ⟨_, _, e⟩ | ⟨gb, e, _⟩
                · have h1 := HLNF.out.1
                  rw [e] at h1
                  simp at h1
                  omega
                · exact ⟨gb, e⟩
              obtain ⟨gb, rfl⟩ := hlb
              obtain ⟨_, _, e2', k5⟩ := yat.ints kn (by rw [HLNF.out.1]; exact hknn)
              cases e2'
              rw [Nat.zero_add, ← hsv] at k5
              have k5f : w8.frozen? ⟨gb, kn, none⟩ = false := by
                obtain ⟨cur, hcur⟩ := HO8.out.ty (g := gb) rfl
                simp [World.frozen?, hcur]
              have k1' := ((HX6.out.chg HC8.out (fun hk => by
                have h := HFB.out
                rcases hk with h1 | h1
                · have := (h.2.2.2 _ h1).1; omega
                · omega) HX6.out.lt) 1 _ rfl).1
              have HIN := Lib.hid hin
              have HCAN := Lib.hid hcan
              have HISN := Lib.hid his
              have HSV := Lib.hid hsv
              have HKN := Lib.hid hknn
              have HOWS := Lib.hid (own_set HO8.out kn (sv - 1))
              have kd1 : (kn : Int) < (n : Int) := by omega
              have kd0 : (0 : Int) ≤ (kn : Int) := by omega
              have jd1 : (j : Int) < (nd : Int) := by have h1 := HNFD.out; omega
              have hsvi : sv ≤ 12 ∧ 0 ≤ sv := by
                have h3 := HDz.out.st kn (by rw [HLNF.out.1]; exact hknn)
                have h4 := HV.out.2.2.2.2.1 kn (by rw [← HN.out.1]; exact hknn)
                rw [← hsv] at h3
                omega
              have wsv : IntKind.i64.wrap (sv - 1) = sv - 1 := IntWalk.i64_in _ (by omega)
              clear hknn hrow hI hcan hrlen hin hdl hdn his hbf hsv yv yat ycase hneg hge
              go_wp2_with fail
              refine Calls.mono HIN.out ?_
              rintro e wc ⟨rfl, rfl⟩
              cases isin
              · have HO := Lib.hid (HERR.out hm1 fun h => of_decide_eq_false HISN.out.symm (HCAN.out.1 h).1)
                clear hm1
                go_wp2_with fail
                refine bodyPost_ret (v := .tuple #[.int .i64 0, .int .i64 5]) (by simp [results, Try.f12, go_sem]) rfl ?_
                exact retB (by rw [HO.out]) HBW8.out
              rcases Bool.eq_false_or_eq_true bf with hb1 | hb1
              · subst hb1
                have HO := Lib.hid (HERR.out hm1 fun h => by have h1 := (HCAN.out.1 h).2.1; cases h1)
                clear hm1
                go_wp2_with fail
                refine bodyPost_ret (v := .tuple #[.int .i64 0, .int .i64 5]) (by simp [results, Try.f12, go_sem]) rfl ?_
                exact retB (by rw [HO.out]) HBW8.out
              subst hb1
              by_cases hs0 : sv = 0
              · have e5 : (sv == (0 : Int)) = true := by simpa using hs0
                have HO := Lib.hid (HERR.out hm1 fun h => (HCAN.out.1 h).2.2 hs0)
                clear hm1 hs0
                go_wp2_with fail
                refine bodyPost_ret (v := .tuple #[.int .i64 0, .int .i64 5]) (by simp [results, Try.f12, go_sem]) rfl ?_
                exact retB (by rw [HO.out]) HBW8.out
              · have e5 : (sv == (0 : Int)) = false := by simpa using hs0
                have ht2 := turn2_yes (g := g) HPA.out (by rw [← HPC.out]; exact hm1) (by rw [← HPC.out]; exact HCAN.out.2 ⟨of_decide_eq_true HISN.out.symm, rfl, hs0⟩)
                rw [← HPC.out] at ht2
                have HT2 := Lib.hid (HTV.out _ ht2)
                have HRN := Lib.hid (show RS = lostL g (l.map (·.1)) (F.drop (j + 1)) (afterS s2 kn) x from by have h := HRz.out; rw [ht2] at h; simp only [Int.add_zero] at h; exact h)
                have HST2 := Lib.hid (show (afterS s2 kn).starts = s2.starts.set kn (sv - 1) from by
                  unfold afterS
                  simp only
                  rw [if_pos (by omega), Int.toNat_natCast, HSV.out])
                have HCS := Lib.hid (Chg.setCell (S := fun k => (Value.slice (some ⟨gb, 0, none⟩) n lc).ownBlock = some k ∨ k = Fb) HC8.out (p := ⟨gb, kn, none⟩) (fun _ => .inl rfl) (.int .i64 (sv - 1)))
                have HF9 := Lib.hid (HF8.out.chg (Chg.setCell (S := fun k => k = gb) (Chg.refl _ _) (p := ⟨gb, kn, none⟩) (fun _ => rfl) (.int .i64 (sv - 1))) (fun e => (HFB.out.2.2.2 gb rfl).2 e.symm) (Nat.lt_of_lt_of_le HFB.out.2.2.1 HC8.out.size))
                clear hm1 ht2 hs0
                go_wp2_with fail
                go_roundg (nf - j)
                case measure => have := HLT.out; omega
                case rel => exact ⟨j + 1, afterS s2 kn, x, HLT.out, by have := HLT.out; omega, by go_num, rfl, by rw [HBZE.out]; rfl, hx0, by omega, HT2.out.1, by rw [HT2.out.2.1, HTz.out]; rfl, by rw [HT2.out.2.2]; exact HBb.out, HRN.out, by rw [HST2.out]; exact HOWS.out, HF9.out, HCS.out⟩
          · obtain rfl : ll = i := by omega
            have HO := Lib.hid (show X = (0, 2) from by
              have h1 : posAt (l.map (·.1)) s2 = none := by
                rw [HPO.out, List.drop_eq_nil_of_le (by rw [List.length_map, HN.out.2.2.2.2]; exact Nat.le_refl _)]
                rfl
              have h2 := HRz.out
              unfold turn2 at h2
              rw [h1] at h2
              exact HRES.out _ h2)
            have kd : decide ((ll : Int) < (ll : Int)) = false := decide_eq_false (by omega)
            go_wp2_with fail
            refine bodyPost_ret (v := .tuple #[.int .i64 0, .int .i64 2]) (by simp [results, Try.f12, go_sem]) rfl ?_
            exact retB (by rw [HO.out]) HBV.out
      · subst hfv
        have hvn2 := hvn
        obtain ⟨k4, k4f⟩ := HFQ.out v (.bool (bg s.failed v)) (by rw [List.getElem?_map, List.getElem?_eq_getElem (by rw [HD.out.lf, ← HN.out.1]; exact hvn), ← bg_lt]; rfl)
        have g1 : decide ((0 : Int) ≤ (v : Int)) = true := decide_eq_true (by omega)
        have v1 : (v : Int) < (n : Int) := by omega
        have v0 : (0 : Int) ≤ (v : Int) := by omega
        have hbq := HD.out.b0
        have hbq1 := HD.out.b1
        obtain ⟨sbu, hsbu⟩ : ∃ b, b = s.budget := ⟨_, rfl⟩
        rw [← hsbu]
        rw [← hsbu, ← HN.out.2.2.1] at hbq
        rw [← hsbu] at hbq1
        have wb : IntKind.i64.wrap (sbu - 1) = sbu - 1 := IntWalk.i64_in _ (by omega)
        have HSB := Lib.hid hsbu
        have HVN := Lib.hid hvn
        clear hvn hvn2 hsbu
        go_upto_region 13 with fail
        refine wp_named ?_
        intro wz hwz
        obtain ⟨s2, hs2⟩ : ∃ s2, s2 = hit s v := ⟨_, rfl⟩
        have hh : hitF s (v : Int) = hit s v := by unfold hitF; rw [if_pos v0, Int.toNat_natCast]
        have hbe : sbu - 1 = s2.budget := by rw [hs2, HSB.out]; rfl
        rw [hbe]
        have HDz := Lib.hid (show Dom g s2 from by rw [hs2, ← hh]; exact HD2.out)
        have HTz := Lib.hid (show s2.turn = (j : Int) from by rw [hs2]; exact HST.out)
        have HRz := Lib.hid (show RS = match turn2 g (l.map (·.1)) s2 with
          | .error e => .error e
          | .ok y => lostL g (l.map (·.1)) (F.drop (j + 1)) y.1 (x + y.2) from by rw [hs2, ← hh]; exact HRT.out)
        have hcz : Chg (fun k => k = Fb) wq wz := by rw [hwz]; exact Chg.setCell (S := fun k => k = Fb) (Chg.refl _ _) (p := ⟨Fb, v, none⟩) (fun _ => rfl) _
        have HOz := Lib.hid (show EI.Own wz w3.heap.size (.slice la n lc) s2.starts from by
          rw [hs2]
          exact HOQ.out.block fun k hk => hcz.block k (HOQ.out.lt k hk).2 (fun e => (HFB.out.2.2.2 k hk).2 e))
        have HFz := Lib.hid (show BoxAt wz Fb (s2.failed.map Value.bool) from by
          rw [hs2, hwz]
          have h := HFQ.out.put v (.bool true) (by rw [List.length_map, HD.out.lf, ← HN.out.1]; exact HVN.out)
          show BoxAt _ Fb ((s.failed.set v true).map Value.bool)
          rw [List.map_set]
          exact h)
        have HCz := Lib.hid (show Chg (fun k => (Value.slice la n lc).ownBlock = some k ∨ k = Fb) w6 wz from HCQ.out.trans (hcz.mono fun _ _ h => .inr h))
        have HBb := Lib.hid (show cntF (F.drop (j + 1)) ≤ s2.budget from by have h := HCN2.out; rw [if_pos v0] at h; rw [← hbe, HSB.out]; omega)
        clear hs2 hwz hh hbe hcz kq k4 k4f wb hbq hbq1 g1 v1 v0
        go_wp2_with fail
        have hml2 := HML.out
        have HBz := Lib.hid (HB6.out.trans (HCz.out.below HB6.out.size HLO.out))
        have hD := HDz.out
        have hln : s2.starts.length = n := by rw [hD.ls, HN.out.1]
        have hlf : s2.failed.length = n := by rw [hD.lf, HN.out.1]
        obtain ⟨bz, hbz⟩ : ∃ b, b = s2.budget := ⟨_, rfl⟩
        rw [← hbz]
        have his : ∀ (x : PA), x ∈ l → ∀ wy, Below wz.heap.size wz wy → Calls Try.prog 28 #[psV x.1 x.2.1 x.2.2.1 x.2.2.2.1 x.2.2.2.2, .int .i64 (j : Int), .slice la n lc, .slice (some ⟨Fb, 0, none⟩) n n, .int .i64 bz] wy (RetB (.bool (decide (x.1.st = s2))) wy) := fun x hx wy hy => by
          have h := is_any x.1 x.2.1 x.2.2.2.1 x.2.2.1 x.2.2.2.2 s2 la (some ⟨Fb, 0, none⟩) lc n wy (((HL.out.later HBz.out).later hy).ps x hx) (by
            obtain ⟨ya, yc, yv, -, -, yat, -⟩ := (HOz.out.later hy).at
            obtain ⟨rfl, -, -⟩ := Value.slice.inj yv
            exact yat.ints) (bools_at (HFz.out.later hy)) (by rw [hlf, hln]) (by omega)
          rw [hln, hlf, HTz.out, ← hbz] at h
          exact h
        have HIS := Lib.hid his
        have HLNF := Lib.hid (And.intro hln hlf)
        have HBZE := Lib.hid hbz
        clear his hln hlf hbz hD hml2
        go_wp2_with fail
        go_loopg [13] (ll + 1) (fun gk v13 wr => ∃ (i : Nat), i ≤ ll ∧ gk + i = ll + 1 ∧ v13 = .int .i64 i ∧ Below wz.heap.size wz wr ∧ posAt (l.map (·.1)) s2 = posAt ((l.map (·.1)).drop i) s2)
        case atStart => exact ⟨0, by omega, by omega, rfl, Below.refl _ _, by rw [List.drop_zero]⟩
        case round =>
          obtain ⟨i, hi, hgi, rfl, hbr, hpo⟩ := hrel
          obtain ⟨wv, hwv⟩ : ∃ wv, wv = wr := ⟨_, rfl⟩
          subst hwv
          have HBR := Lib.hid hbr
          have HPO := Lib.hid hpo
          have HBV := Lib.hid (HBz.out.trans (hbr.mono HBz.out.size))
          clear hbr hpo
          by_cases hlt2 : i < ll
          · have hiL : i < l.length := by have := HN.out.2.2.2.2; omega
            have hLq := HL.out.later HBV.out
            obtain ⟨pb0, off, rfl, _⟩ := hLq.at'.head (by omega)
            have hrng := hLq.at'.range hiL
            rw [show off + i * EQ.S = off + i * 6 from rfl] at hrng
            have hdp := posAt_drop (plan := l.map (·.1)) (i := i) (by simpa using hiL) s2
            rw [List.getElem_map] at hdp
            have hxm := List.getElem_mem hiL
            obtain ⟨x', hx'⟩ : ∃ x, x = l[i] := ⟨_, rfl⟩
            rw [← hx'] at hrng hdp hxm
            have hic := fun wy hy => HIS.out x' hxm wy hy
            obtain ⟨p, psa, psc, pfa, pfc⟩ := x'
            simp only at hdp hic
            obtain ⟨pn, hpn⟩ : ∃ n, n = p.starts.length := ⟨_, rfl⟩
            obtain ⟨pm, hpm⟩ : ∃ n, n = p.failed.length := ⟨_, rfl⟩
            obtain ⟨pt, hpt⟩ : ∃ n, n = p.turn := ⟨_, rfl⟩
            obtain ⟨pb, hpb2⟩ : ∃ n, n = p.budget := ⟨_, rfl⟩
            obtain ⟨pc, hpc⟩ : ∃ n, n = p.choice := ⟨_, rfl⟩
            obtain ⟨pd, hpd⟩ : ∃ n, n = p.bound := ⟨_, rfl⟩
            have hrng' : wv.rangeAt pb0 (off + i * 6) [.int .i64 pt, .slice psa pn psc, .slice pfa pm pfc, .int .i64 pb, .int .i64 pc, .int .i64 pd] := by rw [hpn, hpm, hpt, hpb2, hpc, hpd]; exact hrng
            simp only [psV, ← hpn, ← hpm, ← hpt, ← hpb2, ← hpc, ← hpd] at hic
            have x0 : wv.cell? ⟨pb0, off + i * 6, none⟩ = some (.int .i64 pt) := hrng' 0 _ rfl
            have x1 : wv.cell? ⟨pb0, off + i * 6 + 1, none⟩ = some (.slice psa pn psc) := hrng' 1 _ rfl
            have x2 : wv.cell? ⟨pb0, off + i * 6 + 2, none⟩ = some (.slice pfa pm pfc) := hrng' 2 _ rfl
            have x3 : wv.cell? ⟨pb0, off + i * 6 + 3, none⟩ = some (.int .i64 pb) := hrng' 3 _ rfl
            have x4 : wv.cell? ⟨pb0, off + i * 6 + 4, none⟩ = some (.int .i64 pc) := hrng' 4 _ rfl
            have x5 : wv.cell? ⟨pb0, off + i * 6 + 5, none⟩ = some (.int .i64 pd) := hrng' 5 _ rfl
            obtain ⟨bm, hbm⟩ : ∃ b, b = decide (p.st = s2) := ⟨_, rfl⟩
            rw [← hbm] at hic
            have HIC := Lib.hid (hic wv HBR.out)
            have HDP := Lib.hid hdp
            have HBM := Lib.hid hbm
            have HPC := Lib.hid hpc
            have HLT2 := Lib.hid hlt2
            have k1 : (i : Int) < (ll : Int) := by omega
            have k0 : (0 : Int) ≤ (i : Int) := by omega
            have kd : decide ((i : Int) < (ll : Int)) = true := decide_eq_true k1
            have kn1 : ((i : Int) == (ll : Int)) = false := by simp; omega
            have kn2 : (i == ll) = false := by simp; omega
            have wi : IntKind.i64.wrap ((i : Int) + 1) = (i : Int) + 1 := IntWalk.i64_in _ (by omega)
            clear hiL hLq hrng hrng' hdp hxm hx' hpn hpm hpt hpb2 hpc hpd hic hbm hlt2
            go_wp2_with fail
            refine Calls.mono HIC.out ?_
            rintro e w8 ⟨rfl, hb8⟩
            have HB8 := Lib.hid (HBR.out.trans (hb8.mono HBR.out.size))
            have y4 := cell_later hb8 x4
            clear hb8 x0 x1 x2 x3 x4 x5
            cases bm
            · have HNP := Lib.hid (show posAt (l.map (·.1)) s2 = posAt ((l.map (·.1)).drop (i + 1)) s2 from by rw [HPO.out, HDP.out, if_neg (of_decide_eq_false HBM.out.symm)])
              clear y4
              go_wp2_with fail
              go_roundg (ll - i)
              case measure => have := HLT2.out; omega
              case rel => exact ⟨i + 1, HLT2.out, by have := HLT2.out; omega, by go_num, HB8.out, HNP.out⟩
            · have HPA := Lib.hid (show posAt (l.map (·.1)) s2 = some p from by rw [HPO.out, HDP.out, if_pos (of_decide_eq_true HBM.out.symm)])
              have HC8 := Lib.hid (HCz.out.trans (Chg.of_below HB8.out))
              have HO8 := Lib.hid (HOz.out.later HB8.out)
              have HF8 := Lib.hid (HFz.out.later HB8.out)
              have HBW8 := Lib.hid (HBz.out.trans (HB8.out.mono HBz.out.size))
              have HTV := Lib.hid (fun y => turn2_dom HV.out (plan := l.map (·.1)) HDz.out (show s2.turn < g.deps.length from by rw [HTz.out, ← HN.out.2.1, ← HNFD.out]; omega) (y := y))
              have HERR := Lib.hid (show pc ≠ -1 → ¬ canQ g s2 pc → X = (0, 5) from fun h1 h2 => by
                have h := HRz.out
                rw [turn2_no HPA.out (by rw [← HPC.out]; exact h1) (by rw [← HPC.out]; exact h2)] at h
                exact HRES.out _ h)
              by_cases hm1 : pc = -1
              · have e1 : (pc == (-1 : Int)) = true := by simpa using hm1
                have ht2 := turn2_none (g := g) HPA.out (by rw [← HPC.out]; exact hm1)
                have HT2 := Lib.hid (HTV.out _ ht2)
                have HRN := Lib.hid (show RS = lostL g (l.map (·.1)) (F.drop (j + 1)) (afterS s2 (-1)) (x + 1) from by have h := HRz.out; rw [ht2] at h; exact h)
                clear hm1 ht2
                go_wp2_with fail
                go_roundg (nf - j)
                case measure => have := HLT.out; omega
                case rel => exact ⟨j + 1, afterS s2 (-1), x + 1, HLT.out, by have := HLT.out; omega, by go_num, rfl, by rw [HBZE.out]; rfl, by omega, by omega, HT2.out.1, by rw [HT2.out.2.1, HTz.out]; rfl, by rw [HT2.out.2.2]; exact HBb.out, HRN.out, HO8.out, HF8.out, HC8.out⟩
              have e1 : (pc == (-1 : Int)) = false := by simpa using hm1
              by_cases hneg : pc < 0
              · have e2 : decide (pc < 0) = true := decide_eq_true hneg
                have HO := Lib.hid (HERR.out hm1 fun h => by
                  have h3 := (okDep_domG (HV.out.2.2.2.2.2 s2.turn.toNat (by rw [HTz.out, Int.toNat_natCast, ← HN.out.2.1, ← HNFD.out]; exact HLT.out)) h.1).1
                  omega)
                clear hm1 hneg
                go_wp2_with fail
                refine bodyPost_ret (v := .tuple #[.int .i64 0, .int .i64 5]) (by simp [results, Try.f12, go_sem]) rfl ?_
                exact retB (by rw [HO.out]) HBW8.out
              have e2 : decide (pc < 0) = false := decide_eq_false hneg
              by_cases hge : (n : Int) ≤ pc
              · have e3 : decide ((n : Int) ≤ pc) = true := decide_eq_true hge
                have HO := Lib.hid (HERR.out hm1 fun h => by
                  have h3 := (okDep_domG (HV.out.2.2.2.2.2 s2.turn.toNat (by rw [HTz.out, Int.toNat_natCast, ← HN.out.2.1, ← HNFD.out]; exact HLT.out)) h.1).2
                  rw [← HN.out.1] at h3
                  omega)
                clear hm1 hneg hge
                go_wp2_with fail
                refine bodyPost_ret (v := .tuple #[.int .i64 0, .int .i64 5]) (by simp [results, Try.f12, go_sem]) rfl ?_
                exact retB (by rw [HO.out]) HBW8.out
              have e3 : decide ((n : Int) ≤ pc) = false := decide_eq_false hge
              obtain ⟨kn, hkn⟩ : ∃ kn : Nat, pc = kn := ⟨pc.toNat, by omega⟩
              subst hkn
              have hknn : kn < n := by omega
              have e3n : decide (n ≤ kn) = false := decide_eq_false (by omega)
              obtain ⟨db, doff, ra, rc, rfl, hrow, hI⟩ := HG.out.d j (by rw [← HN.out.2.1, ← HNFD.out]; exact HLT.out)
              have hcan : canQ g s2 (kn : Int) ↔ ((kn : Int) ∈ g.deps.getD j [] ∧ bg s2.failed kn = false ∧ ¬ ig s2.starts kn = 0) := by
                unfold canQ dg
                rw [HTz.out, Int.toNat_natCast, Int.toNat_natCast]
              have hrlen : (g.deps.getD j []).length < 9223372036854775808 := by
                have h3 := okDep_len (HV.out.2.2.2.2.2 j (by rw [← HN.out.2.1, ← HNFD.out]; exact HLT.out))
                have h4 : (g.deps.getD j []).length ≤ g.starts.length := h3
                have h5 := HN.out.1
                omega
              have hin := in_any (g.deps.getD j []) ra rc kn w8 (hI.later HBW8.out) hrlen
              have k3 := cell_later HBW8.out hrow
              obtain ⟨dl, hdl⟩ : ∃ d, d = g.deps.getD j [] := ⟨_, rfl⟩
              rw [← hdl] at hcan hin k3
              obtain ⟨dn, hdn⟩ : ∃ n, n = dl.length := ⟨_, rfl⟩
              rw [← hdn] at hin k3
              obtain ⟨isin, his⟩ : ∃ b, b = decide ((kn : Int) ∈ dl) := ⟨_, rfl⟩
              rw [← his] at hin
              obtain ⟨bf, hbf⟩ : ∃ b, b = bg s2.failed kn := ⟨_, rfl⟩
              obtain ⟨sv, hsv⟩ : ∃ b, b = ig s2.starts kn := ⟨_, rfl⟩
              rw [← hbf, ← hsv] at hcan
              obtain ⟨k4, -⟩ := HF8.out kn (.bool bf) (by rw [List.getElem?_map, List.getElem?_eq_getElem (by rw [HLNF.out.2]; exact hknn), ← bg_lt, ← hbf]; rfl)
              obtain ⟨ya, yc, yv, -, -, yat, ycase⟩ := HO8.out.at
              obtain ⟨rfl, -, rfl⟩ := Value.slice.inj yv
              have hlb : ∃ gb, la = some ⟨gb, 0, none⟩ := by
                rcases ycase with ⟨_, _, e⟩ | ⟨gb, e, _⟩
                · have h1 := HLNF.out.1
                  rw [e] at h1
                  simp at h1
                  omega
                · exact ⟨gb, e⟩
              obtain ⟨gb, rfl⟩ := hlb
              obtain ⟨_, _, e2', k5⟩ := yat.ints kn (by rw [HLNF.out.1]; exact hknn)
              cases e2'
              rw [Nat.zero_add, ← hsv] at k5
              have k5f : w8.frozen? ⟨gb, kn, none⟩ = false := by
                obtain ⟨cur, hcur⟩ := HO8.out.ty (g := gb) rfl
                simp [World.frozen?, hcur]
              have k1' := ((HX6.out.chg HC8.out (fun hk => by
                have h := HFB.out
                rcases hk with h1 | h1
                · have := (h.2.2.2 _ h1).1; omega
                · omega) HX6.out.lt) 1 _ rfl).1
              have HIN := Lib.hid hin
              have HCAN := Lib.hid hcan
              have HISN := Lib.hid his
              have HSV := Lib.hid hsv
              have HKN := Lib.hid hknn
              have HOWS := Lib.hid (own_set HO8.out kn (sv - 1))
              have kd1 : (kn : Int) < (n : Int) := by omega
              have kd0 : (0 : Int) ≤ (kn : Int) := by omega
              have jd1 : (j : Int) < (nd : Int) := by have h1 := HNFD.out; omega
              have hsvi : sv ≤ 12 ∧ 0 ≤ sv := by
                have h3 := HDz.out.st kn (by rw [HLNF.out.1]; exact hknn)
                have h4 := HV.out.2.2.2.2.1 kn (by rw [← HN.out.1]; exact hknn)
                rw [← hsv] at h3
                omega
              have wsv : IntKind.i64.wrap (sv - 1) = sv - 1 := IntWalk.i64_in _ (by omega)
              clear hknn hrow hI hcan hrlen hin hdl hdn his hbf hsv yv yat ycase hneg hge
              go_wp2_with fail
              refine Calls.mono HIN.out ?_
              rintro e wc ⟨rfl, rfl⟩
              cases isin
              · have HO := Lib.hid (HERR.out hm1 fun h => of_decide_eq_false HISN.out.symm (HCAN.out.1 h).1)
                clear hm1
                go_wp2_with fail
                refine bodyPost_ret (v := .tuple #[.int .i64 0, .int .i64 5]) (by simp [results, Try.f12, go_sem]) rfl ?_
                exact retB (by rw [HO.out]) HBW8.out
              rcases Bool.eq_false_or_eq_true bf with hb1 | hb1
              · subst hb1
                have HO := Lib.hid (HERR.out hm1 fun h => by have h1 := (HCAN.out.1 h).2.1; cases h1)
                clear hm1
                go_wp2_with fail
                refine bodyPost_ret (v := .tuple #[.int .i64 0, .int .i64 5]) (by simp [results, Try.f12, go_sem]) rfl ?_
                exact retB (by rw [HO.out]) HBW8.out
              subst hb1
              by_cases hs0 : sv = 0
              · have e5 : (sv == (0 : Int)) = true := by simpa using hs0
                have HO := Lib.hid (HERR.out hm1 fun h => (HCAN.out.1 h).2.2 hs0)
                clear hm1 hs0
                go_wp2_with fail
                refine bodyPost_ret (v := .tuple #[.int .i64 0, .int .i64 5]) (by simp [results, Try.f12, go_sem]) rfl ?_
                exact retB (by rw [HO.out]) HBW8.out
              · have e5 : (sv == (0 : Int)) = false := by simpa using hs0
                have ht2 := turn2_yes (g := g) HPA.out (by rw [← HPC.out]; exact hm1) (by rw [← HPC.out]; exact HCAN.out.2 ⟨of_decide_eq_true HISN.out.symm, rfl, hs0⟩)
                rw [← HPC.out] at ht2
                have HT2 := Lib.hid (HTV.out _ ht2)
                have HRN := Lib.hid (show RS = lostL g (l.map (·.1)) (F.drop (j + 1)) (afterS s2 kn) x from by have h := HRz.out; rw [ht2] at h; simp only [Int.add_zero] at h; exact h)
                have HST2 := Lib.hid (show (afterS s2 kn).starts = s2.starts.set kn (sv - 1) from by
                  unfold afterS
                  simp only
                  rw [if_pos (by omega), Int.toNat_natCast, HSV.out])
                have HCS := Lib.hid (Chg.setCell (S := fun k => (Value.slice (some ⟨gb, 0, none⟩) n lc).ownBlock = some k ∨ k = Fb) HC8.out (p := ⟨gb, kn, none⟩) (fun _ => .inl rfl) (.int .i64 (sv - 1)))
                have HF9 := Lib.hid (HF8.out.chg (Chg.setCell (S := fun k => k = gb) (Chg.refl _ _) (p := ⟨gb, kn, none⟩) (fun _ => rfl) (.int .i64 (sv - 1))) (fun e => (HFB.out.2.2.2 gb rfl).2 e.symm) (Nat.lt_of_lt_of_le HFB.out.2.2.1 HC8.out.size))
                clear hm1 ht2 hs0
                go_wp2_with fail
                go_roundg (nf - j)
                case measure => have := HLT.out; omega
                case rel => exact ⟨j + 1, afterS s2 kn, x, HLT.out, by have := HLT.out; omega, by go_num, rfl, by rw [HBZE.out]; rfl, hx0, by omega, HT2.out.1, by rw [HT2.out.2.1, HTz.out]; rfl, by rw [HT2.out.2.2]; exact HBb.out, HRN.out, by rw [HST2.out]; exact HOWS.out, HF9.out, HCS.out⟩
          · obtain rfl : ll = i := by omega
            have HO := Lib.hid (show X = (0, 2) from by
              have h1 : posAt (l.map (·.1)) s2 = none := by
                rw [HPO.out, List.drop_eq_nil_of_le (by rw [List.length_map, HN.out.2.2.2.2]; exact Nat.le_refl _)]
                rfl
              have h2 := HRz.out
              unfold turn2 at h2
              rw [h1] at h2
              exact HRES.out _ h2)
            have kd : decide ((ll : Int) < (ll : Int)) = false := decide_eq_false (by omega)
            go_wp2_with fail
            refine bodyPost_ret (v := .tuple #[.int .i64 0, .int .i64 2]) (by simp [results, Try.f12, go_sem]) rfl ?_
            exact retB (by rw [HO.out]) HBV.out
    · obtain rfl : nf = j := by omega
      have HO := Lib.hid (show X = (x, 0) from by
        have h := HR2.out
        rw [List.drop_eq_nil_of_le (by rw [HN.out.2.2.2.1]; exact Nat.le_refl _)] at h
        exact HRES.out _ h)
      clear hlt hgj
      go_wp2_with fail
      refine bodyPost_ret (v := .tuple #[.int .i64 x, .int .i64 0]) (by simp [results, Try.f12, go_sem]) rfl ?_
      exact retB (by rw [HO.out]) HBQ.out
/-! ### Worst -/
structure WsQ (g : Gm) (plan : List Pos) (F W : List Int) (m : Int) (D R : List (List Int)) : Prop where
  all : allG g = D ++ R
  d : ∀ G ∈ D, bef G F = true ∨ G = F
  r : ∀ G ∈ R, bef G F = false ∧ G ≠ F
  ok : (runL (fun G => lostL g plan G (beginS g) 0) D).2 = none
  w : worstF (runL (fun G => lostL g plan G (beginS g) 0) D).1 = (W, m)
theorem WsP.q {g : Gm} {plan : List Pos} {F W : List Int} {m : Int} {D R : List (List Int)} (h : WsP g plan F W m D R) (hF : F ∉ allG g) : WsQ g plan F W m D R := ⟨h.all, (h.skip hF).1, (h.skip hF).2, h.ok, h.w⟩
theorem WsP.q2 {g : Gm} {plan : List Pos} {F W : List Int} {m v : Int} {D R' : List (List Int)} (h : WsP g plan F W m D (F :: R')) (hv : lostL g plan F (beginS g) 0 = .ok v) : WsQ g plan F (if m < v then (F, v) else (W, m)).1 (if m < v then (F, v) else (W, m)).2 (D ++ [F]) R' :=
  ⟨(h.take hv).1, h.rest.1, h.rest.2, (h.take hv).2.1, (h.take hv).2.2⟩
theorem WsQ.next {g : Gm} {plan : List Pos} {F F' W : List Int} {m : Int} {D R : List (List Int)} (h : WsQ g plan F W m D R) (hFl : F.length = g.deps.length) (hFi : InR ((g.starts.length : Int) - 1) F) (hn : nextL ((g.starts.length : Int) - 1) F = some F') : WsP g plan F' W m D R :=
  WsP.next h.all h.d h.r h.ok h.w hFl hFi hn
theorem WsQ.last {g : Gm} {plan : List Pos} {F W : List Int} {m : Int} {D R : List (List Int)} (h : WsQ g plan F W m D R) (hv : VG g) (hFl : F.length = g.deps.length) (hFi : InR ((g.starts.length : Int) - 1) F) (hn : nextL ((g.starts.length : Int) - 1) F = none) : worstV g plan = (W, m, 0) := by
  have e := WsP.last h.all h.r hFl hFi hn
  have ho := h.ok
  have hw := h.w
  rw [e] at ho hw
  exact WsP.done hv ho hw
def RetWr (g : Gm) (plan : List Pos) (w : World) (e : Ending) (w' : World) : Prop :=
  ∃ b d, e = .returned (.tuple #[.slice b (worstV g plan).1.length d, .int .i64 (worstV g plan).2.1, .int .i64 (worstV g plan).2.2]) ∧ Ints w' b (worstV g plan).1 ∧ Below w.heap.size w w'
theorem RetWr.of {g : Gm} {plan : List Pos} {w w' : World} {W : List Int} {m e0 : Int} (h : worstV g plan = (W, m, e0)) {b : Option Addr} {d : Nat} (hi : Ints w' b W) (hb : Below w.heap.size w w') : RetWr g plan w (.returned (.tuple #[.slice b W.length d, .int .i64 m, .int .i64 e0])) w' :=
  ⟨b, d, by rw [h], by rw [h]; exact hi, hb⟩
/-- where a round begins -/
structure WrI (g : Gm) (plan : List Pos) (n nd K gk : Nat) (w1 wr : World) (mo : Bool) (nv : Value) (wa : Option Addr) (W : List Int) (m : Int) : Prop where
  b : Below w1.heap.size w1 wr
  wi : Ints wr wa W
  mm : -1 ≤ m ∧ m ≤ 12
  off : mo = false → worstV g plan = (W, m, 0)
  on : mo = true → ∃ F fa fc D R, nv = .slice fa nd fc ∧ F.length = nd ∧ InR ((n : Int) - 1) F ∧ Ints wr fa F ∧ nd ≤ fc ∧ WsP g plan F W m D R ∧ gk + rk (n + 1) F = K + 1 ∧ rk (n + 1) F < K
set_option maxRecDepth 100000 in
set_option maxHeartbeats 8000000 in
theorem rworst_any (g : Gm) (sa da : Option Addr) (sc dc : Nat) (l : List PA) (a : Option Addr) (c : Nat) (w : World) (hG : GmAt w g sa da) (hB : GmBig g) (hL : LaP w a l) (hll : l.length ≤ 400) :
    Calls Try.prog 14 #[gmV g sa sc da dc, .slice a l.length c] w (RetWr g (l.map (·.1)) w) := by
  have hva := fun wy (hy : Below w.heap.size w wy) => rvalidG_any g sa da sc dc wy (hG.later hy) hB
  have hal := fun (h : VG g) (F : List Int) fa fc wy (hy : Below w.heap.size w wy) (hF : Ints wy fa F) (hl : F.length ≤ 1000) (hc : F.length ≤ fc) => allowed_any g sa da sc dc F fa fc wy (hG.later hy) h.1 hF hl hc
  have hlo := fun (F : List Int) fa fc wy (hy : Below w.heap.size w wy) (hF : Ints wy fa F) (hl : F.length ≤ 1000) (hc : F.length ≤ fc) => rlost_any g sa da sc dc l a c F fa fc wy (hG.later hy) hB (hL.later hy) hll hF hl hc
  obtain ⟨n, hn⟩ : ∃ n, n = g.starts.length := ⟨_, rfl⟩
  obtain ⟨nd, hnd⟩ : ∃ n, n = g.deps.length := ⟨_, rfl⟩
  obtain ⟨bu, hbu⟩ : ∃ n, n = g.budget := ⟨_, rfl⟩
  obtain ⟨ll, hlq⟩ : ∃ n, n = l.length := ⟨_, rfl⟩
  simp only [gmV, ← hn, ← hnd, ← hbu, ← hlq] at hva hal hlo ⊢
  have HVA := Lib.hid hva
  have HAL := Lib.hid hal
  have HLO := Lib.hid hlo
  have HN := Lib.hid (And.intro hn (And.intro hnd hbu))
  clear hva hal hlo hG hB hL hn hnd hbu hlq hll
  go_enter Try.func14, Try.ntmps14
  go_upto_region 1 with fail
  refine wp_named ?_
  intro w0 hw0
  obtain ⟨hb0, -, hx0, -⟩ := alloc1 w [.slice sa n sc, .slice da nd dc, .int .i64 bu] _ w0 hw0
  have HB0 := Lib.hid hb0
  have HX0 := Lib.hid hx0
  have c0 := (hx0 0 _ rfl).1
  have c1 := (hx0 1 _ rfl).1
  have c2 := (hx0 2 _ rfl).1
  clear hw0 hb0 hx0
  go_wp2_with fail
  refine Calls.mono (HVA.out w0 HB0.out) ?_
  rintro e w1 ⟨rfl, hb1⟩
  have HB1 := Lib.hid (HB0.out.trans (hb1.mono HB0.out.size))
  have HX1 := Lib.hid (HX0.out.later hb1)
  clear c0 c1 c2 hb1
  rcases Classical.em (¬ VG g) with hv | hv
  · have HO := Lib.hid (worstV_no (plan := l.map (·.1)) hv)
    rw [vgB_false hv]
    clear hv
    go_wp2_with fail
    refine bodyPost_ret (v := .tuple #[.slice none 0 0, .int .i64 0, .int .i64 1]) (by simp [results, Try.f14, go_sem]) rfl ?_
    exact RetWr.of HO.out (Ints.nil _ _) HB1.out
  replace hv : VG g := Classical.not_not.1 hv
  have HV := Lib.hid hv
  rw [vgB_true hv]
  have hn6 : n ≤ 6 := by rw [HN.out.1]; exact hv.1
  have hnd12 : nd ≤ 12 := by rw [HN.out.2.1]; exact hv.2.1
  clear hv
  go_wp2_with fail
  go_loopg [7, 8] (nd + 1) (fun gk v7 v8 wr => ∃ (i : Nat) (nv : Value), i ≤ nd ∧ gk + i = nd + 1 ∧ v8 = .int .i64 i ∧ nv = v7 ∧ EI.Own wr w1.heap.size nv (List.replicate i (-1)) ∧ Below w1.heap.size w1 wr)
  case atStart => exact ⟨0, _, by omega, by omega, rfl, rfl, El.Own.nil _ _ _, Below.refl _ _⟩
  case round =>
    obtain ⟨i, nv, hi, hgi, rfl, rfl, hown, hbr⟩ := hrel
    obtain ⟨wq, hwq⟩ : ∃ wq, wq = wr := ⟨_, rfl⟩
    subst hwq
    have c1 := ((HX1.out.later hbr) 1 _ rfl).1
    by_cases hlt : i < nd
    · have hEm : Below wq.heap.size wq (wq.alloc (.cells #[.int .i64 (-1)] 3)) := (Below.refl _ _).alloc (Nat.le_refl _) _
      obtain ⟨v2, w5, hr, ho, hg, -⟩ := El.app (E := EI) _ w1.heap.size nv (List.replicate i (-1)) [-1] (hown.later hEm) (some ⟨wq.heap.size, 0, none⟩) 1 (El.at_lit' EI wq [-1] _ _ rfl) (by simp; omega) (by have := hbr.size; simp; omega) 22
      rw [show List.replicate i (-1 : Int) ++ [-1] = List.replicate (i + 1) (-1) from List.replicate_succ'.symm] at ho
      have hb5 : Below w1.heap.size w1 w5 := (hbr.trans (hEm.mono hbr.size)).grown hg (Nat.le_trans hbr.size hEm.size) (fun b hb => ((hown.later hEm).lt b hb).1)
      have HR := Lib.hid hr
      have HO := Lib.hid ho
      have HB5 := Lib.hid hb5
      have HLT := Lib.hid hlt
      have i1 : (i : Int) < (nd : Int) := by omega
      have i0 : (0 : Int) ≤ (i : Int) := by omega
      have wv : IntKind.i64.wrap ((i : Int) + 1) = (i : Int) + 1 := IntWalk.i64_in _ (by omega)
      clear hEm hr ho hg hb5 hown hbr hlt
      go_wp2_with (at_builtin; go_loud (refine wpList_app_eq rfl _ _ _ rfl _ _ rfl rfl HR.out ?_))
      go_roundg (nd - i)
      case measure => have := HLT.out; omega
      case rel => exact ⟨i + 1, _, HLT.out, by have := HLT.out; omega, by go_num, rfl, HO.out, HB5.out⟩
    · obtain rfl : nd = i := by omega
      obtain ⟨na, nc, rfl, hnc, -, hat, -⟩ := hown.at
      rw [List.length_replicate] at hnc ⊢
      obtain ⟨K, hK⟩ : ∃ K, K = (n + 1) ^ nd := ⟨_, rfl⟩
      have hir : InR ((n : Int) - 1) (List.replicate nd (-1)) := fun f hf => by
        have := (List.mem_replicate.1 hf).2
        omega
      have hrk := (rk_next (B := n + 1) (m := (n : Int) - 1) (by omega) hir).1
      rw [List.length_replicate, ← hK] at hrk
      have HI0 := Lib.hid (show WrI g (l.map (·.1)) n nd K (K + 1) w1 wq true (.slice na nd nc) none [] (-1) from
        ⟨hbr, Ints.nil _ _, by omega, fun e => (by cases e), fun _ => ⟨List.replicate nd (-1), na, nc, [], allG g, rfl, by simp, hir, hat.ints, hnc, by rw [HN.out.2.1]; exact WsP.start g _, by rw [rk_rep], hrk⟩⟩)
      have HK := Lib.hid hK
      clear hown hbr hnc hat hK hir hrk hlt hgi
      go_wp2_with fail
      clear c1
      go_loopg [7, 9, 10, 11] (K + 1) (fun gk v7 v9 v10 v11 wr => ∃ (mo : Bool) (nv : Value) (wa : Option Addr) (wc : Nat) (W : List Int) (m : Int), v11 = .bool mo ∧ nv = v7 ∧ v9 = .slice wa W.length wc ∧ v10 = .int .i64 m ∧ WrI g (l.map (·.1)) n nd K gk w1 wr mo nv wa W m)
      case atStart => exact ⟨true, _, none, 0, [], -1, rfl, rfl, rfl, rfl, HI0.out⟩
      case round =>
        obtain ⟨mo, nv, wa, wc, W, m, rfl, rfl, rfl, rfl, hI⟩ := hrel
        obtain ⟨wz, hwz⟩ : ∃ wz, wz = wr := ⟨_, rfl⟩
        subst hwz
        have HBZ := Lib.hid hI.b
        have HBW := Lib.hid (HB1.out.trans (hI.b.mono HB1.out.size))
        have HWI := Lib.hid hI.wi
        have hmm := hI.mm
        cases mo
        · have HO := Lib.hid (hI.off rfl)
          clear hI
          go_wp2_with fail
          refine bodyPost_ret (v := .tuple #[.slice wa W.length wc, .int .i64 m, .int .i64 0]) (by simp [results, Try.f14, go_sem]) rfl ?_
          exact RetWr.of HO.out HWI.out HBW.out
        · obtain ⟨F, fa, fc, D, R, rfl, hFl, hir, hFi, hfc, hP, hgk, hrk⟩ := hI.on rfl
          have HFL := Lib.hid hFl
          have HIR := Lib.hid hir
          have HFI := Lib.hid hFi
          have HFC := Lib.hid hfc
          have HP := Lib.hid hP
          have HGK := Lib.hid (And.intro hgk hrk)
          have hal := HAL.out HV.out F fa fc wz HBW.out hFi (by omega) (by omega)
          rw [hFl] at hal
          have HALC := Lib.hid hal
          have c0 := ((HX1.out.later HBZ.out) 0 _ rfl).1
          have c1 := ((HX1.out.later HBZ.out) 1 _ rfl).1
          have c2 := ((HX1.out.later HBZ.out) 2 _ rfl).1
          clear hI hFl hir hFi hfc hP hgk hrk hal
          go_wp2_with fail
          refine Calls.mono HALC.out ?_
          rintro e w5 ⟨rfl, hb5⟩
          have HB5 := Lib.hid (HBZ.out.trans (hb5.mono HBZ.out.size))
          have HBW5 := Lib.hid (HBW.out.trans (hb5.mono HBW.out.size))
          have HFI5 := Lib.hid (HFI.out.later hb5)
          have HWI5 := Lib.hid (HWI.out.later hb5)
          clear c0 c1 c2 hb5
          rcases Classical.em (AllowG g F) with hA | hA
          · rw [allowB_true hA]
            have hlc := HLO.out F fa fc w5 HBW5.out HFI5.out (by have := HFL.out; omega) (by have := HFL.out; have := HFC.out; omega)
            rw [HFL.out, lostN_yes ⟨HV.out, hA⟩] at hlc
            obtain ⟨R', hR⟩ := HP.out.head ((allow_iff HV.out).1 hA)
            subst hR
            obtain ⟨r, hr⟩ : ∃ r, r = lostL g (l.map (·.1)) F (beginS g) 0 := ⟨_, rfl⟩
            rw [← hr] at hlc
            have HRE := Lib.hid hr
            have c0 := ((HX1.out.later HB5.out) 0 _ rfl).1
            have c1 := ((HX1.out.later HB5.out) 1 _ rfl).1
            have c2 := ((HX1.out.later HB5.out) 2 _ rfl).1
            clear hA hr
            cases r with
            | error q =>
              have hq := lostL_err HRE.out.symm
              have HO := Lib.hid (HP.out.err HV.out HRE.out.symm)
              have HLC := Lib.hid (show Calls Try.prog 12 #[.agg #[.slice sa n sc, .slice da nd dc, .int .i64 bu], .slice a ll c, .slice fa nd fc] w5 (RetB (.tuple #[.int .i64 0, .int .i64 q]) w5) from hlc)
              have e1 : (q == (0 : Int)) = false := by simp; omega
              clear hlc
              go_wp2_with fail
              refine Calls.mono HLC.out ?_
              rintro e w6 ⟨rfl, hb6⟩
              have HBW6 := Lib.hid (HBW5.out.trans (hb6.mono HBW5.out.size))
              clear hb6 c0 c1 c2
              go_wp2_with fail
              refine bodyPost_ret (v := .tuple #[.slice none 0 0, .int .i64 0, .int .i64 q]) (by simp [results, Try.f14, go_sem]) rfl ?_
              exact RetWr.of HO.out (Ints.nil _ _) HBW6.out
            | ok q =>
              have hq := lostL_in HRE.out.symm
              rw [HFL.out] at hq
              have HQ0 := Lib.hid (HP.out.q2 HRE.out.symm)
              have HLC := Lib.hid (show Calls Try.prog 12 #[.agg #[.slice sa n sc, .slice da nd dc, .int .i64 bu], .slice a ll c, .slice fa nd fc] w5 (RetB (.tuple #[.int .i64 q, .int .i64 0]) w5) from hlc)
              clear hlc
              go_wp2_with fail
              refine Calls.mono HLC.out ?_
              rintro e w6 ⟨rfl, hb6⟩
              have HB6 := Lib.hid (HB5.out.trans (hb6.mono HB5.out.size))
              have HFI6 := Lib.hid (HFI5.out.later hb6)
              have HWI6 := Lib.hid (HWI5.out.later hb6)
              clear hb6 c0 c1 c2
              by_cases hlt : m < q
              · have e1 : decide (m < q) = true := decide_eq_true hlt
                have HQ := Lib.hid (show WsQ g (l.map (·.1)) F F q (D ++ [F]) R' from by have h := HQ0.out; rw [if_pos hlt] at h; exact h)
                have HFLS := Lib.hid HFL.out.symm
                clear hlt
                have hnx := next_any F fa fc ((n : Int) - 1) w6 (HFI6.out) (by have := HFL.out; omega) (fun f hf => by have := HIR.out f hf; omega) (by omega)
                unfold RetNx at hnx
                rw [HFL.out] at hnx
                have HNX := Lib.hid hnx
                have c0 := ((HX1.out.later (HB6.out)) 0 _ rfl).1
                have wn : IntKind.i64.wrap ((n : Int) - 1) = (n : Int) - 1 := IntWalk.i64_in _ (by omega)
                clear hnx
                go_wp2_with fail
                refine Calls.mono HNX.out ?_
                rintro e w9 ⟨hb9, ⟨hnn, rfl⟩ | ⟨F', b', c', hnn, rfl, hat, hcap⟩⟩
                · have HI := Lib.hid (show WrI g (l.map (·.1)) n nd K 0 w1 w9 false (.slice none 0 0) fa F q from
                    ⟨(HB6.out).trans (hb9.mono (HB6.out).size), (HFI6.out).later hb9, (by omega), fun _ => (HQ.out).last HV.out (by rw [HFL.out, HN.out.2.1]) (by rw [← HN.out.1]; exact HIR.out) (by rw [← HN.out.1]; exact hnn), fun e => by cases e⟩)
                  clear hb9 hnn c0 wn
                  go_wp2_with fail
                  go_roundg 0
                  case measure => have := HGK.out; omega
                  case rel => exact ⟨_, _, _, _, _, _, rfl, rfl, (by first | rfl | rw [HFL.out]), rfl, HI.out⟩
                · have hrn := (rk_next (B := n + 1) (m := (n : Int) - 1) (by omega) HIR.out).2.1 F' hnn
                  have hsp := (next_spec (m := (n : Int) - 1) (F := F) (G := F) rfl HIR.out HIR.out).1 F' hnn
                  have hrk := (rk_next (B := n + 1) (m := (n : Int) - 1) (by omega) hsp.2.1).1
                  rw [hsp.1, HFL.out, ← HK.out] at hrk
                  have HI := Lib.hid (show WrI g (l.map (·.1)) n nd K (K + 1 - rk (n + 1) F') w1 w9 true (.slice b' nd c') fa F q from
                    ⟨(HB6.out).trans (hb9.mono (HB6.out).size), (HFI6.out).later hb9, (by omega), fun e => (by cases e), fun _ => ⟨F', b', c', _, _, rfl, by rw [hsp.1]; exact HFL.out, hsp.2.1, hat.ints, hcap, (HQ.out).next (by rw [HFL.out, HN.out.2.1]) (by rw [← HN.out.1]; exact HIR.out) (by rw [← HN.out.1]; exact hnn), by omega, hrk⟩⟩)
                  have HRN := Lib.hid (And.intro hrn hrk)
                  clear hb9 hnn hat hcap c0 wn hrn hsp hrk
                  go_wp2_with fail
                  go_roundg (K + 1 - rk (n + 1) F')
                  case measure => have := HGK.out; have := HRN.out; omega
                  case rel => exact ⟨_, _, _, _, _, _, rfl, rfl, (by first | rfl | rw [HFL.out]), rfl, HI.out⟩
              · have e1 : decide (m < q) = false := decide_eq_false hlt
                have HQ := Lib.hid (show WsQ g (l.map (·.1)) F W m (D ++ [F]) R' from by have h := HQ0.out; rw [if_neg hlt] at h; exact h)
                clear hlt
                have hnx := next_any F fa fc ((n : Int) - 1) w6 (HFI6.out) (by have := HFL.out; omega) (fun f hf => by have := HIR.out f hf; omega) (by omega)
                unfold RetNx at hnx
                rw [HFL.out] at hnx
                have HNX := Lib.hid hnx
                have c0 := ((HX1.out.later (HB6.out)) 0 _ rfl).1
                have wn : IntKind.i64.wrap ((n : Int) - 1) = (n : Int) - 1 := IntWalk.i64_in _ (by omega)
                clear hnx
                go_wp2_with fail
                refine Calls.mono HNX.out ?_
                rintro e w9 ⟨hb9, ⟨hnn, rfl⟩ | ⟨F', b', c', hnn, rfl, hat, hcap⟩⟩
                · have HI := Lib.hid (show WrI g (l.map (·.1)) n nd K 0 w1 w9 false (.slice none 0 0) wa W m from
                    ⟨(HB6.out).trans (hb9.mono (HB6.out).size), (HWI6.out).later hb9, hmm, fun _ => (HQ.out).last HV.out (by rw [HFL.out, HN.out.2.1]) (by rw [← HN.out.1]; exact HIR.out) (by rw [← HN.out.1]; exact hnn), fun e => by cases e⟩)
                  clear hb9 hnn c0 wn
                  go_wp2_with fail
                  go_roundg 0
                  case measure => have := HGK.out; omega
                  case rel => exact ⟨_, _, _, _, _, _, rfl, rfl, (by first | rfl | rw [HFL.out]), rfl, HI.out⟩
                · have hrn := (rk_next (B := n + 1) (m := (n : Int) - 1) (by omega) HIR.out).2.1 F' hnn
                  have hsp := (next_spec (m := (n : Int) - 1) (F := F) (G := F) rfl HIR.out HIR.out).1 F' hnn
                  have hrk := (rk_next (B := n + 1) (m := (n : Int) - 1) (by omega) hsp.2.1).1
                  rw [hsp.1, HFL.out, ← HK.out] at hrk
                  have HI := Lib.hid (show WrI g (l.map (·.1)) n nd K (K + 1 - rk (n + 1) F') w1 w9 true (.slice b' nd c') wa W m from
                    ⟨(HB6.out).trans (hb9.mono (HB6.out).size), (HWI6.out).later hb9, hmm, fun e => (by cases e), fun _ => ⟨F', b', c', _, _, rfl, by rw [hsp.1]; exact HFL.out, hsp.2.1, hat.ints, hcap, (HQ.out).next (by rw [HFL.out, HN.out.2.1]) (by rw [← HN.out.1]; exact HIR.out) (by rw [← HN.out.1]; exact hnn), by omega, hrk⟩⟩)
                  have HRN := Lib.hid (And.intro hrn hrk)
                  clear hb9 hnn hat hcap c0 wn hrn hsp hrk
                  go_wp2_with fail
                  go_roundg (K + 1 - rk (n + 1) F')
                  case measure => have := HGK.out; have := HRN.out; omega
                  case rel => exact ⟨_, _, _, _, _, _, rfl, rfl, (by first | rfl | rw [HFL.out]), rfl, HI.out⟩
          · rw [allowB_false hA]
            have HQ := Lib.hid (HP.out.q fun h => hA ((allow_iff HV.out).2 h))
            clear hA
            have hnx := next_any F fa fc ((n : Int) - 1) w5 (HFI5.out) (by have := HFL.out; omega) (fun f hf => by have := HIR.out f hf; omega) (by omega)
            unfold RetNx at hnx
            rw [HFL.out] at hnx
            have HNX := Lib.hid hnx
            have c0 := ((HX1.out.later (HB5.out)) 0 _ rfl).1
            have wn : IntKind.i64.wrap ((n : Int) - 1) = (n : Int) - 1 := IntWalk.i64_in _ (by omega)
            clear hnx
            go_wp2_with fail
            refine Calls.mono HNX.out ?_
            rintro e w9 ⟨hb9, ⟨hnn, rfl⟩ | ⟨F', b', c', hnn, rfl, hat, hcap⟩⟩
            · have HI := Lib.hid (show WrI g (l.map (·.1)) n nd K 0 w1 w9 false (.slice none 0 0) wa W m from
                ⟨(HB5.out).trans (hb9.mono (HB5.out).size), (HWI5.out).later hb9, hmm, fun _ => (HQ.out).last HV.out (by rw [HFL.out, HN.out.2.1]) (by rw [← HN.out.1]; exact HIR.out) (by rw [← HN.out.1]; exact hnn), fun e => by cases e⟩)
              clear hb9 hnn c0 wn
              go_wp2_with fail
              go_roundg 0
              case measure => have := HGK.out; omega
              case rel => exact ⟨_, _, _, _, _, _, rfl, rfl, (by first | rfl | rw [HFL.out]), rfl, HI.out⟩
            · have hrn := (rk_next (B := n + 1) (m := (n : Int) - 1) (by omega) HIR.out).2.1 F' hnn
              have hsp := (next_spec (m := (n : Int) - 1) (F := F) (G := F) rfl HIR.out HIR.out).1 F' hnn
              have hrk := (rk_next (B := n + 1) (m := (n : Int) - 1) (by omega) hsp.2.1).1
              rw [hsp.1, HFL.out, ← HK.out] at hrk
              have HI := Lib.hid (show WrI g (l.map (·.1)) n nd K (K + 1 - rk (n + 1) F') w1 w9 true (.slice b' nd c') wa W m from
                ⟨(HB5.out).trans (hb9.mono (HB5.out).size), (HWI5.out).later hb9, hmm, fun e => (by cases e), fun _ => ⟨F', b', c', _, _, rfl, by rw [hsp.1]; exact HFL.out, hsp.2.1, hat.ints, hcap, (HQ.out).next (by rw [HFL.out, HN.out.2.1]) (by rw [← HN.out.1]; exact HIR.out) (by rw [← HN.out.1]; exact hnn), by omega, hrk⟩⟩)
              have HRN := Lib.hid (And.intro hrn hrk)
              clear hb9 hnn hat hcap c0 wn hrn hsp hrk
              go_wp2_with fail
              go_roundg (K + 1 - rk (n + 1) F')
              case measure => have := HGK.out; have := HRN.out; omega
              case rel => exact ⟨_, _, _, _, _, _, rfl, rfl, (by first | rfl | rw [HFL.out]), rfl, HI.out⟩
set_option maxRecDepth 100000 in
set_option maxHeartbeats 8000000 in
theorem all (g : Gm) (sa da : Option Addr) (sc dc : Nat) (l : List PA) (a : Option Addr) (c : Nat) (F : List Int) (fa : Option Addr) (fc : Nat) (w : World) (hG : GmAt w g sa da) (hB : GmBig g) (hL : LaP w a l) (hI : InP l) (hll : l.length < 9223372036854775808) (hFi : Ints w fa F) (hFl : F.length < 9223372036854775808) (hfc : F.length ≤ fc) : Calls Try.prog 3 #[gmV g sa sc da dc, .slice a l.length c, .slice fa F.length fc] w (RetB (.bool true) w) := by
  have hwo := fun (h : FewP g l) (wy : World) (hy : Below w.heap.size w wy) => worst_any g sa da sc dc l a c wy (hG.later hy) h.few (hL.later hy) hI (by have := h.n; omega)
  have hlo := fun (h : FewP g l) (E : List Int) (ea : Option Addr) (ec : Nat) (wy : World) (hy : Below w.heap.size w wy) (hE : Ints wy ea E) (hEl : E.length ≤ 1000) => lost_any g sa da sc dc l a c E ea ec wy (hG.later hy) h.few (hL.later hy) hI (by have := h.n; omega) hE hEl
  simp only [lostV_eq] at hlo
  have hal := fun (h : VG g) (h20 : F.length ≤ 20) (wy : World) (hy : Below w.heap.size w wy) => allowed_any g sa da sc dc F fa fc wy (hG.later hy) h.1 (hFi.later hy) (by omega) hfc
  have HWO := Lib.hid hwo
  have HLO := Lib.hid hlo
  have HAL := Lib.hid hal
  clear hwo hlo hal
  have hrl := fun (h : FewP g l) (h20 : F.length ≤ 20) (wy : World) (hy : Below w.heap.size w wy) => rlost_any g sa da sc dc l a c F fa fc wy (hG.later hy) hB (hL.later hy) h.n (hFi.later hy) (by omega) hfc
  have hrw := fun (h : FewP g l) (wy : World) (hy : Below w.heap.size w wy) => rworst_any g sa da sc dc l a c wy (hG.later hy) hB (hL.later hy) h.n
  have HRL := Lib.hid hrl
  have HRW := Lib.hid hrw
  clear hrl hrw
  have hfe := fun (wy : World) (hy : Below w.heap.size w wy) => fewp_any g sa da sc dc l a c wy (hG.later hy) (hL.later hy) hll hB.d
  have HFE := Lib.hid hfe
  have HG := Lib.hid hG
  have HL := Lib.hid hL
  have HI := Lib.hid hI
  have HFI := Lib.hid hFi
  have HFC := Lib.hid hfc
  clear hG hB hL hI hFi hfc hfe
  go_enter Try.func3, Try.ntmps3
  go_wp2_with fail
  refine calls_named ?_
  intro w0 hw0
  obtain ⟨hbx, -, hx, -⟩ := alloc1 w [.slice sa g.starts.length sc, .slice da g.deps.length dc, .int .i64 g.budget] 25 w0 hw0
  have HX := Lib.hid hx
  have HBX := Lib.hid hbx
  clear hw0 hx hbx
  refine Calls.mono (headp_any w0) ?_
  rintro e w1 ⟨rfl, hb1⟩
  have HB1 := Lib.hid (HBX.out.trans (hb1.mono HBX.out.size))
  have hx1 := HX.out.later hb1
  have HX1 := Lib.hid hx1
  have c0 := (hx1 0 _ rfl).1
  have c1 := (hx1 1 _ rfl).1
  have c2 := (hx1 2 _ rfl).1
  clear hb1 hx1
  go_wp2_with fail
  refine Calls.mono (HFE.out w1 HB1.out) ?_
  rintro e w2 ⟨hb2, hcase⟩
  have HB2 := Lib.hid (HB1.out.trans (hb2.mono HB1.out.size))
  have hx2 := HX1.out.later hb2
  have HX2 := Lib.hid hx2
  clear c0 c1 c2
  have c0 := (hx2 0 _ rfl).1
  have c1 := (hx2 1 _ rfl).1
  have c2 := (hx2 2 _ rfl).1
  clear hb2 hx2
  rcases hcase with rfl | ⟨rfl, hfew⟩
  · go_wp2_with fail
    go_ret
    exact retB rfl HB2.out
  have HFP := Lib.hid hfew
  clear hfew
  rcases Nat.lt_or_ge 20 F.length with h20 | h20
  · have e20 : decide ((20 : Int) < (F.length : Int)) = true := decide_eq_true (by omega)
    go_wp2_with fail
    go_ret
    exact retB rfl HB2.out
  have e20 : decide ((20 : Int) < (F.length : Int)) = false := decide_eq_false (by omega)
  obtain ⟨X, hX⟩ : ∃ X, X = lostN g (l.map (·.1)) F := ⟨_, rfl⟩
  obtain ⟨V, hV⟩ : ∃ V, V = worstV g (l.map (·.1)) := ⟨_, rfl⟩
  have hl1 := HLO.out HFP.out F fa fc w2 HB2.out (HFI.out.later HB2.out) (by omega)
  have hl2 := HRL.out HFP.out h20
  have hw1 := HWO.out HFP.out
  have hw2 := HRW.out HFP.out
  have hWl : V.1.length ≤ 12 := by
    have h := worst_fact g (l.map (·.1))
    rw [← hV] at h
    by_cases e : V.2.2 = 0
    · obtain ⟨hvg, hok, -⟩ := h.ok e
      have h1 := hok.in.2.2
      have h2 := HFP.out.d
      omega
    · rw [(h.no e).1]
      simp
  simp only [← hX] at hl1 hl2
  unfold RetWo at hw1
  unfold RetWr at hw2
  rw [← hV] at hw1 hw2
  obtain ⟨x, f⟩ := X
  obtain ⟨W, m, e0⟩ := V
  simp only at hl1 hl2 hw1 hw2 hWl
  obtain ⟨Wn, hWn⟩ : ∃ n, n = W.length := ⟨_, rfl⟩
  simp only [← hWn] at hw1 hw2 hWl
  have HL1 := Lib.hid hl1
  have HL2 := Lib.hid hl2
  have HW1 := Lib.hid hw1
  have HW2 := Lib.hid hw2
  have HWN := Lib.hid hWn
  clear hl1 hl2 hw1 hw2 hX hV hWn
  go_wp2_with fail
  refine Calls.mono HL1.out ?_
  rintro e w3 ⟨rfl, hb3⟩
  (have HB3 := Lib.hid (HB2.out.trans (hb3.mono HB2.out.size)); have hx3 := HX2.out.later hb3; have HX3 := Lib.hid hx3; clear c0 c1 c2; have c0 := (hx3 0 _ rfl).1; have c1 := (hx3 1 _ rfl).1; have c2 := (hx3 2 _ rfl).1; clear hb3 hx3)
  have hc := HL2.out w3 HB3.out
  have HC := Lib.hid hc
  clear hc
  go_wp2_with fail
  refine Calls.mono HC.out ?_
  rintro e w4 ⟨rfl, hb4⟩
  (have HB4 := Lib.hid (HB3.out.trans (hb4.mono HB3.out.size)); have hx4 := HX3.out.later hb4; have HX4 := Lib.hid hx4; clear c0 c1 c2; have c0 := (hx4 0 _ rfl).1; have c1 := (hx4 1 _ rfl).1; have c2 := (hx4 2 _ rfl).1; clear hb4 hx4)
  have hc := HW1.out w4 HB4.out
  have HC1 := Lib.hid hc
  clear hc
  go_wp2_with fail
  refine Calls.mono HC1.out ?_
  rintro e w5 ⟨b1, d1, rfl, hi1, hb5⟩
  have HI1 := Lib.hid hi1.ints
  (have HB5 := Lib.hid (HB4.out.trans (hb5.mono HB4.out.size)); have hx5 := HX4.out.later hb5; have HX5 := Lib.hid hx5; clear c0 c1 c2; have c0 := (hx5 0 _ rfl).1; have c1 := (hx5 1 _ rfl).1; have c2 := (hx5 2 _ rfl).1; clear hb5 hx5)
  have hc := HW2.out w5 HB5.out
  have HC2 := Lib.hid hc
  clear hc hi1
  go_wp2_with fail
  refine Calls.mono HC2.out ?_
  rintro e w6 ⟨b2, d2, rfl, hi2, hb6⟩
  have hri := rints_any W W b1 b2 d1 d2 w6 (HI1.out.later hb6) hi2 (by have := HWN.out; omega)
  rw [decide_eq_true rfl, ← HWN.out] at hri
  have HRI := Lib.hid hri
  (have HB6 := Lib.hid (HB5.out.trans (hb6.mono HB5.out.size)); have hx6 := HX5.out.later hb6; have HX6 := Lib.hid hx6; clear c0 c1 c2; have c0 := (hx6 0 _ rfl).1; have c1 := (hx6 1 _ rfl).1; have c2 := (hx6 2 _ rfl).1; clear hb6 hx6)
  clear hi2 hri
  have ex : (x == x) = true := by simp
  have ef : (f == f) = true := by simp
  go_wp2_with fail
  refine Calls.mono HRI.out ?_
  rintro e w7 ⟨rfl, hb7⟩
  have HB7 := Lib.hid (HB6.out.trans (hb7.mono HB6.out.size))
  clear hb7
  go_wp2_with fail
  go_ret
  exact retB rfl HB7.out
theorem walk (w : World) (g : Gm) (sa : Option Addr) (sc : Nat) (da : Option Addr) (dc : Nat) (hG : GmAt w g sa da) (hB : GmBig g) (l : List PA) (a : Option Addr) (c : Nat) (hL : LaP w a l) (hI : InP l) (hll : l.length < 9223372036854775808)
    (fa : Option Addr) (fc : Nat) (F : List Int) (hFi : Ints w fa F) (hFl : F.length < 9223372036854775808) (hfc : F.length ≤ fc) : Calls Try.prog 3 #[gmV g sa sc da dc, .slice a l.length c, .slice fa F.length fc] w (RetB (.bool true) w) :=
  all g sa da sc dc l a c F fa fc w hG hB hL hI hll hFi hFl hfc
end PlayMatchesReference
namespace PlayMatchesReference
set_option maxRecDepth 100000 in
theorem entry (H : Type) (enc : TypeId × Value → H) (W : World) (base : Nat) (args : Array Value) (ds : List (DataW H)) (p : List MemPlace)
    (hval : ∀ (j : Nat) t v, Try.f3.params[j]? = some t → args[j]? = some v → Value.okWide Try.prog W .any base t v)
    (hA : DataW.TrodAll enc Try.prog W 0 (fun _ => true) true Try.f3.params.toList args.toList ds p) :
    Calls Try.prog 3 args W (RetB (.bool true) W) := by
  rw [Try.params3] at hA hval
  obtain ⟨v0, vs0, d0, ds0, p0, q0, hargs, rfl, rfl, h0, r0⟩ := trodAll_cons hA
  obtain ⟨v1, vs1, d1, ds1, p1, q1, rfl, rfl, rfl, h1, r1⟩ := trodAll_cons r0
  obtain ⟨v2, vs2, d2, ds2, p2, q2, rfl, rfl, rfl, h2, r2⟩ := trodAll_cons r1
  obtain ⟨rfl, rfl, rfl⟩ := trodAll_nil r2
  obtain rfl : args = #[v0, v1, v2] := by cases args; simp_all
  obtain ⟨g, ga, gc, gd, ge, rfl, gG, gB⟩ := open_game (hval 0 25 v0 rfl rfl) h0
  obtain ⟨plan, plana, planc, rfl, planL, planI, plann⟩ := open_plan (hval 1 26 v1 rfl rfl) h1
  obtain ⟨failsa, failsc, fails, rfl, failsI, failsl, failsk⟩ := open_ints_at (hval 2 22 v2 rfl rfl) h2
  exact walk W g ga gc gd ge gG gB plan plana planc planL planI plann failsa failsc fails failsI failsl failsk
end PlayMatchesReference
/-! The step from the walk to the row of PlayMatchesReference. -/
namespace PlayMatchesReference
set_option maxRecDepth 100000 in
theorem lifted (os : Os) (started : os.Started) (H : Type) (enc : TypeId × Value → H) :
    ReturnsInHanded {} Try.checked os 3 .any (Rows.playMatchesReferenceSpec.pre6 enc Try.prog Try.f3 Rows.playMatchesReferenceRow.domain false) (Rows.playMatchesReferenceSpec.post enc Try.prog Try.f3 false true false false) := by
  refine returnsInHanded_of_change (C := Try.checked) own started (by kernel_rfl) Try.func3
    (ChangeSpec.witness6 (enc := enc) (C := Try.checked) false ⟨#[], #[.agg #[.slice none 0 0, .slice none 0 0, .int .i64 0], .slice none 0 0, .slice none 0 0], []⟩ 8 (by kernel_rfl) (by kernel_rfl) (by kernel_rfl) (by kernel_rfl)) ?_
  intro W base args ds gs before hval0 hW hcnd _
  have hval : ∀ (j : Nat) t v, Try.f3.params[j]? = some t → args[j]? = some v → Value.okWide Try.prog W .any base t v := hval0
  have hW' := hW
  obtain ⟨p, q, hA0, hV, rfl, hfz, hnd⟩ := hW
  have hA : DataW.TrodAll enc Try.prog W 0 (fun _ => true) true Try.f3.params.toList args.toList ds p := hA0
  obtain ⟨rfl, rfl⟩ := trodVars_none hV
  have hlen := trodAll_len _ _ _ _ hA
  obtain ⟨d0, d1, d2, rfl⟩ : ∃ d0 d1 d2, ds = [d0, d1, d2] := by
    rw [Try.params3] at hlen
    exact list3 hlen
  refine (entry H enc W base args [d0, d1, d2] p hval hA).mono fun e W' ⟨he, bel⟩ => ?_
  subst he
  exact ⟨_, rfl, _, _, _, [], _, [], hW', trodAll_mk1 (shut_bool Try.underlying4 _), readback laidOut _ _ _ _ (by rw [Try.params3]; exact of_decide_eq_true (by kernel_rfl)) hA bel, rfl, bel.frame _, fun h => by cases h⟩

theorem over : Rows.playMatchesReferenceRow.holds Try.pinned (OpenSpec.ofChange Rows.playMatchesReferenceSpec) :=
  OpenClaim.holds_of_wide 3 Try.f3 rfl rfl rfl rfl rfl rfl rfl ⟨rfl, rfl, rfl, rfl, rfl⟩ rfl rfl rfl rfl rfl (by kernel_rfl) Try.func3 (by kernel_rfl)
    (of_decide_eq_true (by kernel_rfl)) (by unfold Func.isWrapper; first | (rw [if_pos (by decide +kernel)]; kernel_rfl) | (rw [if_neg (by decide +kernel)]; exact ⟨rfl, rfl⟩))
    (fun os started H enc _ => lifted os started H enc)

/-- THE STATEMENT -/
theorem proved : Rows.PlayMatchesReferenceSaid := over
end PlayMatchesReference
#print axioms PlayMatchesReference.proved
end Go.Proofs.Ytgjkcnfinjenoaa
