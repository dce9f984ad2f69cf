/- Package play: a turn, Lost. -/
import Derived.Test.YtgccankekflchaaTM1
import Derived.Test.YtgccankekflchaaJdgL
namespace Go.Proofs.Ytgccankekflchaa
open Go.RowKit Go.Maps

def hitF (s : St) (f : Int) : St := if 0 ≤ f then hit s f.toNat else s
abbrev errP (n : Int) : Ending := .panicked [{ v := .iface 29 (.int .i64 n), recovered := false }]
def canQ (g : Gm) (s : St) (c : Int) : Prop := c ∈ dg g s.turn.toNat ∧ bg s.failed c.toNat = false ∧ ¬ ig s.starts c.toNat = 0
instance (g : Gm) (s : St) (c : Int) : Decidable (canQ g s c) := inferInstanceAs (Decidable (_ ∧ _ ∧ _))
/-- a turn: what is next and what is lost, or an error -/
def turnR (g : Gm) (plan : List Pos) (s : St) (f : Int) : Except Int (St × Int) :=
  match posAt plan (hitF s f) with
  | none => .error 2
  | some p => if p.choice = -1 then .ok (afterS (hitF s f) (-1), 1) else if canQ g (hitF s f) p.choice then .ok (afterS (hitF s f) p.choice, 0) else .error 5
def turnE (r : Except Int (St × Int)) : Ending :=
  match r with
  | .error n => errP n
  | .ok x => .returned (.tuple #[pyV x.1, .int .i64 x.2])
theorem pyC_len (s : St) : (pyC s).length = 15 := rfl
theorem pyC_one (s : St) : ∀ u ∈ pyC s, u.oneCell' = true := by simp [pyC, Value.oneCell']
theorem pyC_failed {s : St} {f : Nat} (h : f < 6) : (pyC s)[9 + f]? = some (.bool (bg s.failed f)) := by
  have : f = 0 ∨ f = 1 ∨ f = 2 ∨ f = 3 ∨ f = 4 ∨ f = 5 := by omega
  rcases this with rfl | rfl | rfl | rfl | rfl | rfl <;> rfl
theorem pyC_starts {s : St} {f : Nat} (h : f < 6) : (pyC s)[3 + f]? = some (.int .i64 (ig s.starts f)) := by
  have : f = 0 ∨ f = 1 ∨ f = 2 ∨ f = 3 ∨ f = 4 ∨ f = 5 := by omega
  rcases this with rfl | rfl | rfl | rfl | rfl | rfl <;> rfl
theorem pyC_hit {s : St} {f : Nat} (hf : f < s.failed.length) (h6 : f < 6) : ((pyC s).set (9 + f) (.bool true)).set 2 (.int .i64 (s.budget - 1)) = pyC (hit s f) := by
  unfold pyC hit
  simp only [bg_set _ _ _ hf]
  have : f = 0 ∨ f = 1 ∨ f = 2 ∨ f = 3 ∨ f = 4 ∨ f = 5 := by omega
  rcases this with rfl | rfl | rfl | rfl | rfl | rfl <;> rfl
theorem pyC_turn (s : St) : (pyC s).set 0 (.int .i64 (s.turn + 1)) = pyC (afterS s (-1)) := rfl
theorem pyC_after {s : St} {k : Nat} (hk : k < s.starts.length) (h6 : k < 6) : ((pyC s).set (3 + k) (.int .i64 (ig s.starts k - 1))).set 0 (.int .i64 (s.turn + 1)) = pyC (afterS s k) := by
  have e : afterS s k = { s with turn := s.turn + 1, starts := s.starts.set k (ig s.starts k - 1) } := by
    unfold afterS
    rw [if_pos (Int.natCast_nonneg k)]
    rfl
  rw [e]
  unfold pyC
  simp only [List.length_set]
  have hs : ∀ j, ig (s.starts.set k (ig s.starts k - 1)) j = if k = j then ig s.starts k - 1 else ig s.starts j := fun j => by
    rw [ig_set]
    by_cases e : k = j
    · rw [if_pos ⟨e, hk⟩, if_pos e]
    · rw [if_neg (fun h => e h.1), if_neg e]
  simp only [hs]
  have : k = 0 ∨ k = 1 ∨ k = 2 ∨ k = 3 ∨ k = 4 ∨ k = 5 := by omega
  rcases this with rfl | rfl | rfl | rfl | rfl | rfl <;> rfl
theorem alloc3P (w : World) (a b d : List Value) (ta tb td : TypeId) (w1 : World) (h : w1 = ((w.alloc (.cells a.toArray ta)).alloc (.cells b.toArray tb)).alloc (.cells d.toArray td)) :
    Below w.heap.size w w1 ∧ w1.heap.size = w.heap.size + 1 + 1 + 1 ∧ BoxAt w1 w.heap.size a ∧ BoxAt w1 (w.heap.size + 1) b ∧ BoxAt w1 (w.heap.size + 1 + 1) d := by
  obtain ⟨x, hx⟩ : ∃ x, x = (w.alloc (.cells a.toArray ta)).alloc (.cells b.toArray tb) := ⟨_, rfl⟩
  rw [← hx] at h
  obtain ⟨p1, p2, ⟨p3, _⟩, p4, _⟩ := alloc2t w a b ta tb x hx
  obtain ⟨q1, q2, q3, _⟩ := alloc1 x d td w1 h
  rw [p2] at q2 q3
  exact ⟨p1.trans (q1.mono (by omega)), q2, p3.later q1, p4.later q1, q3⟩
def RetTu (r : Except Int (St × Int)) (w : World) (e : Ending) (w' : World) : Prop := e = turnE r ∧ Below w.heap.size w w'
set_option maxRecDepth 100000 in
set_option maxHeartbeats 8000000 in
theorem turn_any (g : Gm) (sa da : Option Addr) (sc dc M k : Nat) (plan : List Pos) (s : St) (f : Int) (w : World) (hG : GmAt w g sa da) (hv : VG g) (hM : MapIs Try.prog 92 w M k (choF plan)) (hD : Dom g s) (hD2 : Dom g (hitF s f)) (ht : s.turn < g.deps.length) (hf : f = -1 ∨ ∃ v : Nat, f = v ∧ v < g.starts.length) :
    Calls Try.prog 42 #[bdV g sa sc da dc M, pyV s, .int .i64 f] w (RetTu (turnR g plan s f) w) := by
  have HG := Lib.hid hG
  have HV := Lib.hid hv
  have HM := Lib.hid hM
  have HD := Lib.hid hD
  have HD2 := Lib.hid hD2
  have ht0 : 0 ≤ s.turn := hD.t0
  obtain ⟨tn, htn⟩ : ∃ tn : Nat, s.turn = tn := ⟨s.turn.toNat, by omega⟩
  obtain ⟨n, hn⟩ : ∃ n, n = g.starts.length := ⟨_, rfl⟩
  obtain ⟨nd, hnd⟩ : ∃ n, n = g.deps.length := ⟨_, rfl⟩
  obtain ⟨bu, hbu⟩ : ∃ n, n = g.budget := ⟨_, rfl⟩
  have hn6 : n ≤ 6 := by rw [hn]; exact hv.1
  have hnd12 : nd ≤ 12 := by rw [hnd]; exact hv.2.1
  have htnd : tn < nd := by omega
  have HN := Lib.hid (And.intro hn (And.intro hnd hbu))
  have HTN := Lib.hid htn
  unfold bdV pyV
  rw [← hn, ← hnd, ← hbu]
  rw [← hn] at hf
  have HF := Lib.hid hf
  have HLS := Lib.hid (show s.starts.length = n ∧ s.failed.length = n ∧ -1 ≤ s.budget - 1 ∧ s.budget ≤ 3 from ⟨by rw [hn]; exact hD.ls, by rw [hn]; exact hD.lf, by have := hD.b1; omega, by have := hD.b0; have := hv.2.2.2.1; omega⟩)
  obtain ⟨C, hC⟩ : ∃ C, C = pyC s := ⟨_, rfl⟩
  have HC := Lib.hid hC
  have hlen : C.length = 15 := by rw [hC]; rfl
  rw [← hC]
  clear hG hv hM hD hD2 ht ht0 htn hn hnd hbu hf hC
  go_enter Try.func42, Try.ntmps42
  go_upto_region 1 with fail
  refine wp_named ?_
  intro w1 hw1
  obtain ⟨hb1, hs1, hg1, hx1, hr1⟩ := alloc3P w [.slice sa n sc, .slice da nd dc, .int .i64 bu, .map (some M)] C pyZ _ _ _ w1 hw1
  have HB1 := Lib.hid hb1
  have HS1 := Lib.hid hs1
  have HG1 := Lib.hid hg1
  have HR1 := Lib.hid hr1
  have HX1 := Lib.hid hx1
  have HM1 := Lib.hid (HM.out.later hb1)
  clear hw1 hb1 hs1 hg1 hx1 hr1
  obtain ⟨s2, hs2⟩ : ∃ s2, s2 = hitF s f := ⟨_, rfl⟩
  have HRE := Lib.hid (show turnR g plan s f = match posAt plan s2 with
    | none => .error 2
    | some p => if p.choice = -1 then .ok (afterS s2 (-1), 1) else if canQ g s2 p.choice then .ok (afterS s2 p.choice, 0) else .error 5 from by rw [hs2]; rfl)
  rw [← hs2] at HD2
  rcases HF.out with rfl | ⟨v, rfl, hvn⟩
  · have e2 : s2 = s := hs2
    rw [← e2] at HC
    clear hs2 hlen
    obtain ⟨w2, hw2⟩ : ∃ w2, w2 = w1 := ⟨_, rfl⟩
    have HB2 := Lib.hid (show Below w.heap.size w w2 from by rw [hw2]; exact HB1.out)
    have HG2 := Lib.hid (show BoxAt w2 w.heap.size [.slice sa n sc, .slice da nd dc, .int .i64 bu, .map (some M)] from by rw [hw2]; exact HG1.out)
    have HR2 := Lib.hid (show BoxAt w2 (w.heap.size + 1 + 1) pyZ from by rw [hw2]; exact HR1.out)
    have HX2 := Lib.hid (show BoxAt w2 (w.heap.size + 1) (pyC s2) from by rw [hw2, ← HC.out]; exact HX1.out)
    have HM2 := Lib.hid (show MapIs Try.prog 92 w2 M k (choF plan) from by rw [hw2]; exact HM1.out)
    have HT2 := Lib.hid (show s2.turn = tn ∧ s2.starts.length = n ∧ s2.failed.length = n from by rw [e2]; exact ⟨HTN.out, HLS.out.1, HLS.out.2.1⟩)
    go_upto_region 4 with fail
    rw [← hw2]
    clear hw2 e2
    obtain ⟨kl, hkl⟩ : ∃ kl, keyOf Try.prog 92 (pyV s2) = some kl := keyPyS ⟨by rw [HT2.out.2.1]; exact hn6, by rw [HT2.out.2.1, HT2.out.2.2]⟩ ⟨by unfold inIG; rw [HT2.out.1]; omega, by have h1 := HD2.out.b0; have h2 := HD2.out.b1; have h3 := HV.out.2.2.2.1; unfold inIG; omega, fun i => by
      unfold inIG
      by_cases hi : i < s2.starts.length
      · have h1 := HD2.out.st i hi
        have h2 := HV.out.2.2.2.2.1 i (by rw [← HN.out.1, ← HT2.out.2.1]; exact hi)
        omega
      · rw [ig_out (by omega)]; omega⟩
    have hcho := choF_at plan (s := s2) ⟨by rw [HT2.out.2.1]; exact hn6, by rw [HT2.out.2.1, HT2.out.2.2]⟩
    obtain ⟨C2, hC2⟩ : ∃ C2, C2 = pyC s2 := ⟨_, rfl⟩
    have HC2 := Lib.hid hC2
    have hlen : C2.length = 15 := by rw [hC2]; rfl
    have HLEN := Lib.hid hlen
    unfold pyV at hkl hcho
    rw [← hC2] at hkl hcho HX2
    have HKL := Lib.hid hkl
    have c3 := (HG2.out 3 _ rfl).1
    clear hC2 hlen hkl
    cases hp : posAt plan s2 with
    | none =>
      have HR := Lib.hid (show turnR g plan s (-1) = .error 2 from by rw [HRE.out, hp])
      rw [hp] at hcho
      have hfx : choF plan (.agg C2.toArray) = none := hcho
      clear hp hcho
      go_wp2_with first | (refine wpList_load_mid rfl 92 _ rfl (w.heap.size + 1) 0 rfl C2 _ (box_range HX2.out) Try.underlying92 rfl (by rw [HLEN.out]; kernel_rfl) ?_) | (at_lookup; refine wpList_look_ok rfl _ _ _ rfl 92 3 lawPy Try.underlying87 (.int .i64 0) zeroI M k (choF plan) rfl HM2.out (.agg C2.toArray) kl rfl HKL.out ?_; rw [hfx]; dsimp only [Option.getD, Option.isSome])
      refine ⟨rfl, ?_, HB2.out⟩
      rw [HR.out]
      rfl
    | some p =>
      obtain ⟨pc, hpc⟩ : ∃ c, c = p.choice := ⟨_, rfl⟩
      rw [hp] at hcho
      have hfx : choF plan (.agg C2.toArray) = some (.int .i64 pc) := by rw [hpc]; exact hcho
      have HR0 := Lib.hid (show turnR g plan s (-1) = if pc = -1 then .ok (afterS s2 (-1), 1) else if canQ g s2 pc then .ok (afterS s2 pc, 0) else .error 5 from by rw [HRE.out, hp, hpc])
      have HT0 := HX2.out 0 (.int .i64 tn) (by rw [HC2.out]; unfold pyC; rw [HT2.out.1]; rfl)
      obtain ⟨ht0, ht0f⟩ := HT0
      have wt : IntKind.i64.wrap ((tn : Int) + 1) = (tn : Int) + 1 := IntWalk.i64_in _ (by omega)
      clear hp hcho hpc
      by_cases hpm : pc = -1
      · subst hpm
        have HR := Lib.hid (show turnR g plan s (-1) = .ok (afterS s2 (-1), 1) from by rw [HR0.out, if_pos rfl])
        go_upto_region 14 with first | (refine wpList_load_mid rfl 92 _ rfl (w.heap.size + 1) 0 rfl C2 _ (box_range HX2.out) Try.underlying92 rfl (by rw [HLEN.out]; kernel_rfl) ?_) | (at_lookup; refine wpList_look_ok rfl _ _ _ rfl 92 3 lawPy Try.underlying87 (.int .i64 0) zeroI M k (choF plan) rfl HM2.out (.agg C2.toArray) kl rfl HKL.out ?_; rw [hfx]; dsimp only [Option.getD, Option.isSome])
        refine wp_named ?_
        intro w3 hw3
        have HX3 := Lib.hid (show BoxAt w3 (w.heap.size + 1) (pyC (afterS s2 (-1))) from by
          rw [hw3, ← pyC_turn, ← HC2.out, HT2.out.1]
          exact HX2.out.put 0 _ (by rw [HLEN.out]; omega))
        have hc3 : Chg (fun b => b = w.heap.size + 1) w2 w3 := by rw [hw3]; exact Chg.setCell (S := fun b => b = w.heap.size + 1) (Chg.refl _ _) (p := ⟨w.heap.size + 1, 0, none⟩) (fun _ => rfl) _
        have HB3 := Lib.hid (show Below w.heap.size w w3 from HB2.out.trans (hc3.below HB2.out.size fun b e => by omega))
        have HR3 := Lib.hid (HR2.out.chg hc3 (by omega) HR2.out.lt)
        clear hw3 hc3 hfx c3 ht0 ht0f wt
        obtain ⟨C3, hC3⟩ : ∃ C3, C3 = pyC (afterS s2 (-1)) := ⟨_, rfl⟩
        rw [← hC3] at HX3
        have hl3 : C3.length = 15 := by rw [hC3]; rfl
        have hone3 : ∀ u ∈ C3, u.oneCell' = true := by rw [hC3]; exact pyC_one _
        have HC3 := Lib.hid (show turnE (turnR g plan s (-1)) = .returned (.tuple #[.agg C3.toArray, .int .i64 (1)]) from by rw [HR.out, hC3]; rfl)
        clear hC3
        go_wp2_with first | (refine wpList_load_mid rfl 92 _ rfl (w.heap.size + 1) 0 rfl C3 _ (box_range HX3.out) Try.underlying92 rfl (by rw [hl3]; kernel_rfl) ?_) | (refine wpList_store_mid rfl 92 _ _ rfl (w.heap.size + 1 + 1) 0 C3.toArray rfl rfl (box_there HR3.out (by rw [List.size_toArray, hl3]; rfl)) (by rw [List.size_toArray, hl3]; kernel_rfl) (all_oneCell_toArray hone3) ?_)
        have hb8 : Below w.heap.size w (w3.setCells (w.heap.size + 1 + 1) 0 C3) := below_setCells _ _ _ _ HB3.out (by omega)
        have hr8 : BoxAt (w3.setCells (w.heap.size + 1 + 1) 0 C3) (w.heap.size + 1 + 1) C3 := HR3.out.stored (by rw [hl3]; rfl)
        refine bodyPost_ret (results_ct (p := ⟨w.heap.size + 1 + 1, 0, none⟩) rfl rfl (run_loadVar_mid _ (w.heap.size + 1 + 1) 0 92 C3 _ (box_range hr8) Try.underlying92 rfl (by rw [hl3]; kernel_rfl))) rfl ?_
        exact ⟨HC3.out.symm, hb8⟩
      · have em : (pc == (-1 : Int)) = false := by simpa using hpm
        obtain ⟨db, doff, ra, rc, rfl, hrow, hri⟩ := (HG.out.later HB2.out).d tn (by rw [← HN.out.2.1]; exact htnd)
        obtain ⟨d, hd⟩ : ∃ d, d = g.deps.getD tn [] := ⟨_, rfl⟩
        rw [← hd] at hrow hri
        have hok : okDep g.starts.length d := by rw [hd]; exact HV.out.2.2.2.2.2 tn (by rw [← HN.out.2.1]; exact htnd)
        have hdl : d.length ≤ 1000 := by have h := okDep_len hok; have h2 := HV.out.1; omega
        have hct := fun wy (hy : Below w2.heap.size w2 wy) => contains_any d pc ra rc wy (hri.later hy) (by omega)
        obtain ⟨m, hm⟩ : ∃ m, m = d.length := ⟨_, rfl⟩
        rw [← hm] at hrow
        simp only [← hm] at hct
        have hcq : canQ g s2 pc ↔ (pc ∈ d ∧ bg s2.failed pc.toNat = false ∧ ¬ ig s2.starts pc.toNat = 0) := by
          have e : dg g s2.turn.toNat = d := by rw [hd, HT2.out.1]; rfl
          unfold canQ
          rw [e]
        have HCQ := Lib.hid hcq
        have HCT := Lib.hid hct
        have g1 := (HG2.out 1 _ rfl).1
        have tn1 : (tn : Int) < (nd : Int) := by omega
        have tn0 : (0 : Int) ≤ (tn : Int) := by omega
        clear hd hri hct hcq hm
        by_cases hin : pc ∈ d
        · have hpr := okDep_domG hok hin
          rw [← HN.out.1] at hpr
          obtain ⟨kn, rfl⟩ : ∃ kn : Nat, pc = kn := ⟨pc.toNat, by omega⟩
          have hkn : kn < n := by omega
          have hk6 : kn < 6 := by omega
          have hDt : decide ((kn : Int) ∈ d) = true := decide_eq_true hin
          rw [hDt] at HCT
          obtain ⟨b, hb⟩ : ∃ b, b = bg s2.failed kn := ⟨_, rfl⟩
          obtain ⟨sv, hsv⟩ : ∃ v, v = ig s2.starts kn := ⟨_, rfl⟩
          have cf := (HX2.out (9 + kn) (.bool b) (by rw [HC2.out, hb]; exact pyC_failed hk6)).1
          obtain ⟨cs, csf⟩ := HX2.out (3 + kn) (.int .i64 sv) (by rw [HC2.out, hsv]; exact pyC_starts hk6)
          have HBV := Lib.hid (And.intro hb hsv)
          have k1 : (kn : Int) < 6 := by omega
          have k0 : (0 : Int) ≤ (kn : Int) := by omega
          have hsr : 0 ≤ sv ∧ sv ≤ 12 := by
            rw [hsv]
            have h1 := HD2.out.st kn (by rw [HT2.out.2.1]; exact hkn)
            have h2 := HV.out.2.2.2.2.1 kn (by rw [← HN.out.1]; exact hkn)
            omega
          have ws : IntKind.i64.wrap (sv - 1) = sv - 1 := IntWalk.i64_in _ (by omega)
          clear hb hsv hDt hpr hok
          cases b with
          | true =>
            have HR := Lib.hid (show turnR g plan s (-1) = .error 5 from by rw [HR0.out, if_neg hpm, if_neg (fun h => by have h2 := (HCQ.out.1 h).2.1; rw [Int.toNat_natCast, ← HBV.out.1] at h2; cases h2)])
            (go_wp2_with first | (refine wpList_load_mid rfl 92 _ rfl (w.heap.size + 1) 0 rfl C2 _ (box_range HX2.out) Try.underlying92 rfl (by rw [HLEN.out]; kernel_rfl) ?_) | (at_lookup; refine wpList_look_ok rfl _ _ _ rfl 92 3 lawPy Try.underlying87 (.int .i64 0) zeroI M k (choF plan) rfl HM2.out (.agg C2.toArray) kl rfl HKL.out ?_; rw [hfx]; dsimp only [Option.getD, Option.isSome]) | (go_at_call 36; refine Calls.mono (HCT.out w2 (Below.refl _ _)) ?_; rintro e w' ⟨rfl, rfl⟩))
            refine ⟨rfl, ?_, HB2.out⟩
            rw [HR.out]
            rfl
          | false =>
            by_cases hz : sv = 0
            · subst hz
              have HR := Lib.hid (show turnR g plan s (-1) = .error 5 from by rw [HR0.out, if_neg hpm, if_neg (fun h => (HCQ.out.1 h).2.2 (by rw [Int.toNat_natCast, ← HBV.out.2]))])
              (go_wp2_with first | (refine wpList_load_mid rfl 92 _ rfl (w.heap.size + 1) 0 rfl C2 _ (box_range HX2.out) Try.underlying92 rfl (by rw [HLEN.out]; kernel_rfl) ?_) | (at_lookup; refine wpList_look_ok rfl _ _ _ rfl 92 3 lawPy Try.underlying87 (.int .i64 0) zeroI M k (choF plan) rfl HM2.out (.agg C2.toArray) kl rfl HKL.out ?_; rw [hfx]; dsimp only [Option.getD, Option.isSome]) | (go_at_call 36; refine Calls.mono (HCT.out w2 (Below.refl _ _)) ?_; rintro e w' ⟨rfl, rfl⟩))
              refine ⟨rfl, ?_, HB2.out⟩
              rw [HR.out]
              rfl
            · have ez : (sv == (0 : Int)) = false := by simpa using hz
              have HR := Lib.hid (show turnR g plan s (-1) = .ok (afterS s2 kn, 0) from by rw [HR0.out, if_neg hpm, if_pos (HCQ.out.2 ⟨hin, by rw [Int.toNat_natCast, ← HBV.out.1], by rw [Int.toNat_natCast, ← HBV.out.2]; exact hz⟩)])
              go_upto_region 12 with first | (refine wpList_load_mid rfl 92 _ rfl (w.heap.size + 1) 0 rfl C2 _ (box_range HX2.out) Try.underlying92 rfl (by rw [HLEN.out]; kernel_rfl) ?_) | (at_lookup; refine wpList_look_ok rfl _ _ _ rfl 92 3 lawPy Try.underlying87 (.int .i64 0) zeroI M k (choF plan) rfl HM2.out (.agg C2.toArray) kl rfl HKL.out ?_; rw [hfx]; dsimp only [Option.getD, Option.isSome]) | (go_at_call 36; refine Calls.mono (HCT.out w2 (Below.refl _ _)) ?_; rintro e w' ⟨rfl, rfl⟩)
              refine wp_named ?_
              intro w3a hw3a
              have hx3a : BoxAt w3a (w.heap.size + 1) (C2.set (3 + kn) (.int .i64 (sv - 1))) := by rw [hw3a]; exact HX2.out.put (3 + kn) _ (by rw [HLEN.out]; omega)
              have hc3a : Chg (fun b => b = w.heap.size + 1) w2 w3a := by rw [hw3a]; exact Chg.setCell (S := fun b => b = w.heap.size + 1) (Chg.refl _ _) (p := ⟨w.heap.size + 1, 3 + kn, none⟩) (fun _ => rfl) _
              have HX3A := Lib.hid hx3a
              have HC3A := Lib.hid hc3a
              have hu0 : (C2.set (3 + kn) (.int .i64 (sv - 1)))[0]? = some (.int .i64 tn) := by
                rw [List.getElem?_set_ne (by omega), HC2.out]
                unfold pyC
                rw [HT2.out.1]
                rfl
              have u0 := (hx3a 0 _ hu0).1
              have u0f := (hx3a 0 _ hu0).2
              clear hw3a hx3a hc3a hu0 cf cs csf ht0 ht0f c3 g1 hfx em
              go_upto_region 14 with fail
              refine wp_named ?_
              intro w3 hw3
              have HX3 := Lib.hid (show BoxAt w3 (w.heap.size + 1) (pyC (afterS s2 kn)) from by
                have h := HX3A.out.put 0 (.int .i64 ((tn : Int) + 1)) (by rw [List.length_set, HLEN.out]; omega)
                rw [HC2.out, HBV.out.2, ← HT2.out.1, pyC_after (by rw [HT2.out.2.1]; exact hkn) hk6, HT2.out.1] at h
                rw [hw3]
                exact h)
              have hc3 : Chg (fun b => b = w.heap.size + 1) w2 w3 := HC3A.out.trans (by rw [hw3]; exact Chg.setCell (S := fun b => b = w.heap.size + 1) (Chg.refl _ _) (p := ⟨w.heap.size + 1, 0, none⟩) (fun _ => rfl) _)
              have HB3 := Lib.hid (show Below w.heap.size w w3 from HB2.out.trans (hc3.below HB2.out.size fun b e => by omega))
              have HR3 := Lib.hid (HR2.out.chg hc3 (by omega) HR2.out.lt)
              clear hw3 hc3 u0 u0f wt ws
              obtain ⟨C3, hC3⟩ : ∃ C3, C3 = pyC (afterS s2 kn) := ⟨_, rfl⟩
              rw [← hC3] at HX3
              have hl3 : C3.length = 15 := by rw [hC3]; rfl
              have hone3 : ∀ u ∈ C3, u.oneCell' = true := by rw [hC3]; exact pyC_one _
              have HC3 := Lib.hid (show turnE (turnR g plan s (-1)) = .returned (.tuple #[.agg C3.toArray, .int .i64 (0)]) from by rw [HR.out, hC3]; rfl)
              clear hC3
              go_wp2_with first | (refine wpList_load_mid rfl 92 _ rfl (w.heap.size + 1) 0 rfl C3 _ (box_range HX3.out) Try.underlying92 rfl (by rw [hl3]; kernel_rfl) ?_) | (refine wpList_store_mid rfl 92 _ _ rfl (w.heap.size + 1 + 1) 0 C3.toArray rfl rfl (box_there HR3.out (by rw [List.size_toArray, hl3]; rfl)) (by rw [List.size_toArray, hl3]; kernel_rfl) (all_oneCell_toArray hone3) ?_)
              have hb8 : Below w.heap.size w (w3.setCells (w.heap.size + 1 + 1) 0 C3) := below_setCells _ _ _ _ HB3.out (by omega)
              have hr8 : BoxAt (w3.setCells (w.heap.size + 1 + 1) 0 C3) (w.heap.size + 1 + 1) C3 := HR3.out.stored (by rw [hl3]; rfl)
              refine bodyPost_ret (results_ct (p := ⟨w.heap.size + 1 + 1, 0, none⟩) rfl rfl (run_loadVar_mid _ (w.heap.size + 1 + 1) 0 92 C3 _ (box_range hr8) Try.underlying92 rfl (by rw [hl3]; kernel_rfl))) rfl ?_
              exact ⟨HC3.out.symm, hb8⟩
        · have HR := Lib.hid (show turnR g plan s (-1) = .error 5 from by rw [HR0.out, if_neg hpm, if_neg (fun h => hin (HCQ.out.1 h).1)])
          have hDf : decide (pc ∈ d) = false := decide_eq_false hin
          rw [hDf] at HCT
          clear hDf hok
          (go_wp2_with first | (refine wpList_load_mid rfl 92 _ rfl (w.heap.size + 1) 0 rfl C2 _ (box_range HX2.out) Try.underlying92 rfl (by rw [HLEN.out]; kernel_rfl) ?_) | (at_lookup; refine wpList_look_ok rfl _ _ _ rfl 92 3 lawPy Try.underlying87 (.int .i64 0) zeroI M k (choF plan) rfl HM2.out (.agg C2.toArray) kl rfl HKL.out ?_; rw [hfx]; dsimp only [Option.getD, Option.isSome]) | (go_at_call 36; refine Calls.mono (HCT.out w2 (Below.refl _ _)) ?_; rintro e w' ⟨rfl, rfl⟩))
          refine ⟨rfl, ?_, HB2.out⟩
          rw [HR.out]
          rfl
  · have hv6 : v < 6 := by omega
    have e2 : s2 = hit s v := by rw [hs2]; unfold hitF; rw [if_pos (Int.natCast_nonneg v)]; rfl
    have cv := HX1.out (9 + v) _ (by rw [HC.out]; exact pyC_failed hv6)
    obtain ⟨cv, cvf⟩ := cv
    have v1 : (v : Int) < 6 := by omega
    have v0 : (0 : Int) ≤ (v : Int) := by omega
    have v2 : decide ((0 : Int) ≤ (v : Int)) = true := decide_eq_true v0
    clear hs2
    go_upto_region 3 with fail
    refine wp_named ?_
    intro w1' hw1'
    have hx1' : BoxAt w1' (w.heap.size + 1) ((pyC s).set (9 + v) (.bool true)) := by rw [hw1', ← HC.out]; exact HX1.out.put (9 + v) _ (by omega)
    have hc1' : Chg (fun b => b = w.heap.size + 1) w1 w1' := by rw [hw1']; exact Chg.setCell (S := fun b => b = w.heap.size + 1) (Chg.refl _ _) (p := ⟨w.heap.size + 1, 9 + v, none⟩) (fun _ => rfl) _
    have HX1' := Lib.hid hx1'
    have HC1' := Lib.hid hc1'
    obtain ⟨sb, hsb⟩ : ∃ b, b = s.budget := ⟨_, rfl⟩
    have c2 : w1'.cell? ⟨w.heap.size + 1, 2, none⟩ = some (.int .i64 sb) := (hx1' 2 _ (by rw [hsb, List.getElem?_set_ne (by omega)]; rfl)).1
    have c2f : w1'.frozen? ⟨w.heap.size + 1, 2, none⟩ = false := (hx1' 2 (.int .i64 sb) (by rw [hsb, List.getElem?_set_ne (by omega)]; rfl)).2
    have HSB := Lib.hid hsb
    have wb : IntKind.i64.wrap (sb - 1) = sb - 1 := IntWalk.i64_in _ (by have := HLS.out; omega)
    clear hw1' hx1' hc1' hsb cv cvf hlen
    go_upto_region 4 with fail
    refine wp_named ?_
    intro w2 hw2
    have hc2 : Chg (fun b => b = w.heap.size + 1) w1 w2 := HC1'.out.trans (by rw [hw2]; exact Chg.setCell (S := fun b => b = w.heap.size + 1) (Chg.refl _ _) (p := ⟨w.heap.size + 1, 2, none⟩) (fun _ => rfl) _)
    have HX2 := Lib.hid (show BoxAt w2 (w.heap.size + 1) (pyC s2) from by
      have h := HX1'.out.put 2 (.int .i64 (sb - 1)) (by rw [List.length_set, pyC_len]; omega)
      rw [HSB.out, pyC_hit (by have := HLS.out; omega) hv6, ← e2, ← HSB.out] at h
      rw [hw2]
      exact h)
    have HB2 := Lib.hid (show Below w.heap.size w w2 from HB1.out.trans (hc2.below HB1.out.size fun b e => by omega))
    have HG2 := Lib.hid (HG1.out.chg hc2 (by omega) HG1.out.lt)
    have HR2 := Lib.hid (HR1.out.chg hc2 (by omega) HR1.out.lt)
    have HM2 := Lib.hid (HM1.out.block (hc2.block M HM1.out.lt (fun e => by have := HM.out.lt; omega)))
    have HT2 := Lib.hid (show s2.turn = tn ∧ s2.starts.length = n ∧ s2.failed.length = n from by rw [e2]; exact ⟨HTN.out, HLS.out.1, by show (s.failed.set v true).length = n; rw [List.length_set]; exact HLS.out.2.1⟩)
    clear hw2 hc2 e2 c2 c2f wb
    obtain ⟨kl, hkl⟩ : ∃ kl, keyOf Try.prog 92 (pyV s2) = some kl := keyPyS ⟨by rw [HT2.out.2.1]; exact hn6, by rw [HT2.out.2.1, HT2.out.2.2]⟩ ⟨by unfold inIG; rw [HT2.out.1]; omega, by have h1 := HD2.out.b0; have h2 := HD2.out.b1; have h3 := HV.out.2.2.2.1; unfold inIG; omega, fun i => by
      unfold inIG
      by_cases hi : i < s2.starts.length
      · have h1 := HD2.out.st i hi
        have h2 := HV.out.2.2.2.2.1 i (by rw [← HN.out.1, ← HT2.out.2.1]; exact hi)
        omega
      · rw [ig_out (by omega)]; omega⟩
    have hcho := choF_at plan (s := s2) ⟨by rw [HT2.out.2.1]; exact hn6, by rw [HT2.out.2.1, HT2.out.2.2]⟩
    obtain ⟨C2, hC2⟩ : ∃ C2, C2 = pyC s2 := ⟨_, rfl⟩
    have HC2 := Lib.hid hC2
    have hlen : C2.length = 15 := by rw [hC2]; rfl
    have HLEN := Lib.hid hlen
    unfold pyV at hkl hcho
    rw [← hC2] at hkl hcho HX2
    have HKL := Lib.hid hkl
    have c3 := (HG2.out 3 _ rfl).1
    clear hC2 hlen hkl
    cases hp : posAt plan s2 with
    | none =>
      have HR := Lib.hid (show turnR g plan s ((v : Int)) = .error 2 from by rw [HRE.out, hp])
      rw [hp] at hcho
      have hfx : choF plan (.agg C2.toArray) = none := hcho
      clear hp hcho
      go_wp2_with first | (refine wpList_load_mid rfl 92 _ rfl (w.heap.size + 1) 0 rfl C2 _ (box_range HX2.out) Try.underlying92 rfl (by rw [HLEN.out]; kernel_rfl) ?_) | (at_lookup; refine wpList_look_ok rfl _ _ _ rfl 92 3 lawPy Try.underlying87 (.int .i64 0) zeroI M k (choF plan) rfl HM2.out (.agg C2.toArray) kl rfl HKL.out ?_; rw [hfx]; dsimp only [Option.getD, Option.isSome])
      refine ⟨rfl, ?_, HB2.out⟩
      rw [HR.out]
      rfl
    | some p =>
      obtain ⟨pc, hpc⟩ : ∃ c, c = p.choice := ⟨_, rfl⟩
      rw [hp] at hcho
      have hfx : choF plan (.agg C2.toArray) = some (.int .i64 pc) := by rw [hpc]; exact hcho
      have HR0 := Lib.hid (show turnR g plan s ((v : Int)) = if pc = -1 then .ok (afterS s2 (-1), 1) else if canQ g s2 pc then .ok (afterS s2 pc, 0) else .error 5 from by rw [HRE.out, hp, hpc])
      have HT0 := HX2.out 0 (.int .i64 tn) (by rw [HC2.out]; unfold pyC; rw [HT2.out.1]; rfl)
      obtain ⟨ht0, ht0f⟩ := HT0
      have wt : IntKind.i64.wrap ((tn : Int) + 1) = (tn : Int) + 1 := IntWalk.i64_in _ (by omega)
      clear hp hcho hpc
      by_cases hpm : pc = -1
      · subst hpm
        have HR := Lib.hid (show turnR g plan s ((v : Int)) = .ok (afterS s2 (-1), 1) from by rw [HR0.out, if_pos rfl])
        go_upto_region 14 with first | (refine wpList_load_mid rfl 92 _ rfl (w.heap.size + 1) 0 rfl C2 _ (box_range HX2.out) Try.underlying92 rfl (by rw [HLEN.out]; kernel_rfl) ?_) | (at_lookup; refine wpList_look_ok rfl _ _ _ rfl 92 3 lawPy Try.underlying87 (.int .i64 0) zeroI M k (choF plan) rfl HM2.out (.agg C2.toArray) kl rfl HKL.out ?_; rw [hfx]; dsimp only [Option.getD, Option.isSome])
        refine wp_named ?_
        intro w3 hw3
        have HX3 := Lib.hid (show BoxAt w3 (w.heap.size + 1) (pyC (afterS s2 (-1))) from by
          rw [hw3, ← pyC_turn, ← HC2.out, HT2.out.1]
          exact HX2.out.put 0 _ (by rw [HLEN.out]; omega))
        have hc3 : Chg (fun b => b = w.heap.size + 1) w2 w3 := by rw [hw3]; exact Chg.setCell (S := fun b => b = w.heap.size + 1) (Chg.refl _ _) (p := ⟨w.heap.size + 1, 0, none⟩) (fun _ => rfl) _
        have HB3 := Lib.hid (show Below w.heap.size w w3 from HB2.out.trans (hc3.below HB2.out.size fun b e => by omega))
        have HR3 := Lib.hid (HR2.out.chg hc3 (by omega) HR2.out.lt)
        clear hw3 hc3 hfx c3 ht0 ht0f wt
        obtain ⟨C3, hC3⟩ : ∃ C3, C3 = pyC (afterS s2 (-1)) := ⟨_, rfl⟩
        rw [← hC3] at HX3
        have hl3 : C3.length = 15 := by rw [hC3]; rfl
        have hone3 : ∀ u ∈ C3, u.oneCell' = true := by rw [hC3]; exact pyC_one _
        have HC3 := Lib.hid (show turnE (turnR g plan s ((v : Int))) = .returned (.tuple #[.agg C3.toArray, .int .i64 (1)]) from by rw [HR.out, hC3]; rfl)
        clear hC3
        go_wp2_with first | (refine wpList_load_mid rfl 92 _ rfl (w.heap.size + 1) 0 rfl C3 _ (box_range HX3.out) Try.underlying92 rfl (by rw [hl3]; kernel_rfl) ?_) | (refine wpList_store_mid rfl 92 _ _ rfl (w.heap.size + 1 + 1) 0 C3.toArray rfl rfl (box_there HR3.out (by rw [List.size_toArray, hl3]; rfl)) (by rw [List.size_toArray, hl3]; kernel_rfl) (all_oneCell_toArray hone3) ?_)
        have hb8 : Below w.heap.size w (w3.setCells (w.heap.size + 1 + 1) 0 C3) := below_setCells _ _ _ _ HB3.out (by omega)
        have hr8 : BoxAt (w3.setCells (w.heap.size + 1 + 1) 0 C3) (w.heap.size + 1 + 1) C3 := HR3.out.stored (by rw [hl3]; rfl)
        refine bodyPost_ret (results_ct (p := ⟨w.heap.size + 1 + 1, 0, none⟩) rfl rfl (run_loadVar_mid _ (w.heap.size + 1 + 1) 0 92 C3 _ (box_range hr8) Try.underlying92 rfl (by rw [hl3]; kernel_rfl))) rfl ?_
        exact ⟨HC3.out.symm, hb8⟩
      · have em : (pc == (-1 : Int)) = false := by simpa using hpm
        obtain ⟨db, doff, ra, rc, rfl, hrow, hri⟩ := (HG.out.later HB2.out).d tn (by rw [← HN.out.2.1]; exact htnd)
        obtain ⟨d, hd⟩ : ∃ d, d = g.deps.getD tn [] := ⟨_, rfl⟩
        rw [← hd] at hrow hri
        have hok : okDep g.starts.length d := by rw [hd]; exact HV.out.2.2.2.2.2 tn (by rw [← HN.out.2.1]; exact htnd)
        have hdl : d.length ≤ 1000 := by have h := okDep_len hok; have h2 := HV.out.1; omega
        have hct := fun wy (hy : Below w2.heap.size w2 wy) => contains_any d pc ra rc wy (hri.later hy) (by omega)
        obtain ⟨m, hm⟩ : ∃ m, m = d.length := ⟨_, rfl⟩
        rw [← hm] at hrow
        simp only [← hm] at hct
        have hcq : canQ g s2 pc ↔ (pc ∈ d ∧ bg s2.failed pc.toNat = false ∧ ¬ ig s2.starts pc.toNat = 0) := by
          have e : dg g s2.turn.toNat = d := by rw [hd, HT2.out.1]; rfl
          unfold canQ
          rw [e]
        have HCQ := Lib.hid hcq
        have HCT := Lib.hid hct
        have g1 := (HG2.out 1 _ rfl).1
        have tn1 : (tn : Int) < (nd : Int) := by omega
        have tn0 : (0 : Int) ≤ (tn : Int) := by omega
        clear hd hri hct hcq hm
        by_cases hin : pc ∈ d
        · have hpr := okDep_domG hok hin
          rw [← HN.out.1] at hpr
          obtain ⟨kn, rfl⟩ : ∃ kn : Nat, pc = kn := ⟨pc.toNat, by omega⟩
          have hkn : kn < n := by omega
          have hk6 : kn < 6 := by omega
          have hDt : decide ((kn : Int) ∈ d) = true := decide_eq_true hin
          rw [hDt] at HCT
          obtain ⟨b, hb⟩ : ∃ b, b = bg s2.failed kn := ⟨_, rfl⟩
          obtain ⟨sv, hsv⟩ : ∃ v, v = ig s2.starts kn := ⟨_, rfl⟩
          have cf := (HX2.out (9 + kn) (.bool b) (by rw [HC2.out, hb]; exact pyC_failed hk6)).1
          obtain ⟨cs, csf⟩ := HX2.out (3 + kn) (.int .i64 sv) (by rw [HC2.out, hsv]; exact pyC_starts hk6)
          have HBV := Lib.hid (And.intro hb hsv)
          have k1 : (kn : Int) < 6 := by omega
          have k0 : (0 : Int) ≤ (kn : Int) := by omega
          have hsr : 0 ≤ sv ∧ sv ≤ 12 := by
            rw [hsv]
            have h1 := HD2.out.st kn (by rw [HT2.out.2.1]; exact hkn)
            have h2 := HV.out.2.2.2.2.1 kn (by rw [← HN.out.1]; exact hkn)
            omega
          have ws : IntKind.i64.wrap (sv - 1) = sv - 1 := IntWalk.i64_in _ (by omega)
          clear hb hsv hDt hpr hok
          cases b with
          | true =>
            have HR := Lib.hid (show turnR g plan s ((v : Int)) = .error 5 from by rw [HR0.out, if_neg hpm, if_neg (fun h => by have h2 := (HCQ.out.1 h).2.1; rw [Int.toNat_natCast, ← HBV.out.1] at h2; cases h2)])
            (go_wp2_with first | (refine wpList_load_mid rfl 92 _ rfl (w.heap.size + 1) 0 rfl C2 _ (box_range HX2.out) Try.underlying92 rfl (by rw [HLEN.out]; kernel_rfl) ?_) | (at_lookup; refine wpList_look_ok rfl _ _ _ rfl 92 3 lawPy Try.underlying87 (.int .i64 0) zeroI M k (choF plan) rfl HM2.out (.agg C2.toArray) kl rfl HKL.out ?_; rw [hfx]; dsimp only [Option.getD, Option.isSome]) | (go_at_call 36; refine Calls.mono (HCT.out w2 (Below.refl _ _)) ?_; rintro e w' ⟨rfl, rfl⟩))
            refine ⟨rfl, ?_, HB2.out⟩
            rw [HR.out]
            rfl
          | false =>
            by_cases hz : sv = 0
            · subst hz
              have HR := Lib.hid (show turnR g plan s ((v : Int)) = .error 5 from by rw [HR0.out, if_neg hpm, if_neg (fun h => (HCQ.out.1 h).2.2 (by rw [Int.toNat_natCast, ← HBV.out.2]))])
              (go_wp2_with first | (refine wpList_load_mid rfl 92 _ rfl (w.heap.size + 1) 0 rfl C2 _ (box_range HX2.out) Try.underlying92 rfl (by rw [HLEN.out]; kernel_rfl) ?_) | (at_lookup; refine wpList_look_ok rfl _ _ _ rfl 92 3 lawPy Try.underlying87 (.int .i64 0) zeroI M k (choF plan) rfl HM2.out (.agg C2.toArray) kl rfl HKL.out ?_; rw [hfx]; dsimp only [Option.getD, Option.isSome]) | (go_at_call 36; refine Calls.mono (HCT.out w2 (Below.refl _ _)) ?_; rintro e w' ⟨rfl, rfl⟩))
              refine ⟨rfl, ?_, HB2.out⟩
              rw [HR.out]
              rfl
            · have ez : (sv == (0 : Int)) = false := by simpa using hz
              have HR := Lib.hid (show turnR g plan s ((v : Int)) = .ok (afterS s2 kn, 0) from by rw [HR0.out, if_neg hpm, if_pos (HCQ.out.2 ⟨hin, by rw [Int.toNat_natCast, ← HBV.out.1], by rw [Int.toNat_natCast, ← HBV.out.2]; exact hz⟩)])
              go_upto_region 12 with first | (refine wpList_load_mid rfl 92 _ rfl (w.heap.size + 1) 0 rfl C2 _ (box_range HX2.out) Try.underlying92 rfl (by rw [HLEN.out]; kernel_rfl) ?_) | (at_lookup; refine wpList_look_ok rfl _ _ _ rfl 92 3 lawPy Try.underlying87 (.int .i64 0) zeroI M k (choF plan) rfl HM2.out (.agg C2.toArray) kl rfl HKL.out ?_; rw [hfx]; dsimp only [Option.getD, Option.isSome]) | (go_at_call 36; refine Calls.mono (HCT.out w2 (Below.refl _ _)) ?_; rintro e w' ⟨rfl, rfl⟩)
              refine wp_named ?_
              intro w3a hw3a
              have hx3a : BoxAt w3a (w.heap.size + 1) (C2.set (3 + kn) (.int .i64 (sv - 1))) := by rw [hw3a]; exact HX2.out.put (3 + kn) _ (by rw [HLEN.out]; omega)
              have hc3a : Chg (fun b => b = w.heap.size + 1) w2 w3a := by rw [hw3a]; exact Chg.setCell (S := fun b => b = w.heap.size + 1) (Chg.refl _ _) (p := ⟨w.heap.size + 1, 3 + kn, none⟩) (fun _ => rfl) _
              have HX3A := Lib.hid hx3a
              have HC3A := Lib.hid hc3a
              have hu0 : (C2.set (3 + kn) (.int .i64 (sv - 1)))[0]? = some (.int .i64 tn) := by
                rw [List.getElem?_set_ne (by omega), HC2.out]
                unfold pyC
                rw [HT2.out.1]
                rfl
              have u0 := (hx3a 0 _ hu0).1
              have u0f := (hx3a 0 _ hu0).2
              clear hw3a hx3a hc3a hu0 cf cs csf ht0 ht0f c3 g1 hfx em
              go_upto_region 14 with fail
              refine wp_named ?_
              intro w3 hw3
              have HX3 := Lib.hid (show BoxAt w3 (w.heap.size + 1) (pyC (afterS s2 kn)) from by
                have h := HX3A.out.put 0 (.int .i64 ((tn : Int) + 1)) (by rw [List.length_set, HLEN.out]; omega)
                rw [HC2.out, HBV.out.2, ← HT2.out.1, pyC_after (by rw [HT2.out.2.1]; exact hkn) hk6, HT2.out.1] at h
                rw [hw3]
                exact h)
              have hc3 : Chg (fun b => b = w.heap.size + 1) w2 w3 := HC3A.out.trans (by rw [hw3]; exact Chg.setCell (S := fun b => b = w.heap.size + 1) (Chg.refl _ _) (p := ⟨w.heap.size + 1, 0, none⟩) (fun _ => rfl) _)
              have HB3 := Lib.hid (show Below w.heap.size w w3 from HB2.out.trans (hc3.below HB2.out.size fun b e => by omega))
              have HR3 := Lib.hid (HR2.out.chg hc3 (by omega) HR2.out.lt)
              clear hw3 hc3 u0 u0f wt ws
              obtain ⟨C3, hC3⟩ : ∃ C3, C3 = pyC (afterS s2 kn) := ⟨_, rfl⟩
              rw [← hC3] at HX3
              have hl3 : C3.length = 15 := by rw [hC3]; rfl
              have hone3 : ∀ u ∈ C3, u.oneCell' = true := by rw [hC3]; exact pyC_one _
              have HC3 := Lib.hid (show turnE (turnR g plan s ((v : Int))) = .returned (.tuple #[.agg C3.toArray, .int .i64 (0)]) from by rw [HR.out, hC3]; rfl)
              clear hC3
              go_wp2_with first | (refine wpList_load_mid rfl 92 _ rfl (w.heap.size + 1) 0 rfl C3 _ (box_range HX3.out) Try.underlying92 rfl (by rw [hl3]; kernel_rfl) ?_) | (refine wpList_store_mid rfl 92 _ _ rfl (w.heap.size + 1 + 1) 0 C3.toArray rfl rfl (box_there HR3.out (by rw [List.size_toArray, hl3]; rfl)) (by rw [List.size_toArray, hl3]; kernel_rfl) (all_oneCell_toArray hone3) ?_)
              have hb8 : Below w.heap.size w (w3.setCells (w.heap.size + 1 + 1) 0 C3) := below_setCells _ _ _ _ HB3.out (by omega)
              have hr8 : BoxAt (w3.setCells (w.heap.size + 1 + 1) 0 C3) (w.heap.size + 1 + 1) C3 := HR3.out.stored (by rw [hl3]; rfl)
              refine bodyPost_ret (results_ct (p := ⟨w.heap.size + 1 + 1, 0, none⟩) rfl rfl (run_loadVar_mid _ (w.heap.size + 1 + 1) 0 92 C3 _ (box_range hr8) Try.underlying92 rfl (by rw [hl3]; kernel_rfl))) rfl ?_
              exact ⟨HC3.out.symm, hb8⟩
        · have HR := Lib.hid (show turnR g plan s ((v : Int)) = .error 5 from by rw [HR0.out, if_neg hpm, if_neg (fun h => hin (HCQ.out.1 h).1)])
          have hDf : decide (pc ∈ d) = false := decide_eq_false hin
          rw [hDf] at HCT
          clear hDf hok
          (go_wp2_with first | (refine wpList_load_mid rfl 92 _ rfl (w.heap.size + 1) 0 rfl C2 _ (box_range HX2.out) Try.underlying92 rfl (by rw [HLEN.out]; kernel_rfl) ?_) | (at_lookup; refine wpList_look_ok rfl _ _ _ rfl 92 3 lawPy Try.underlying87 (.int .i64 0) zeroI M k (choF plan) rfl HM2.out (.agg C2.toArray) kl rfl HKL.out ?_; rw [hfx]; dsimp only [Option.getD, Option.isSome]) | (go_at_call 36; refine Calls.mono (HCT.out w2 (Below.refl _ _)) ?_; rintro e w' ⟨rfl, rfl⟩))
          refine ⟨rfl, ?_, HB2.out⟩
          rw [HR.out]
          rfl
end Go.Proofs.Ytgccankekflchaa
namespace Go.Proofs.Ytgccankekflchaa
open Go.RowKit Go.Maps

/-! ### plain -/
def failStep (n : Nat) (o : Option (List Bool × Int)) (k : Int) : Option (List Bool × Int) :=
  o.bind fun x => if k < -1 ∨ (n : Int) ≤ k ∨ (0 ≤ k ∧ bg x.1 k.toNat = true) then none else if 0 ≤ k then some (x.1.set k.toNat true, x.2 + 1) else some x
def failO (n : Nat) (F : List Int) : Option (List Bool × Int) := F.foldl (failStep n) (some (List.replicate 6 false, 0))
/-- allowed fails -/
def AllowG (g : Gm) (F : List Int) : Prop := F.length = g.deps.length ∧ ∃ x, failO g.starts.length F = some x ∧ x.2 ≤ g.budget
def lostL (g : Gm) (plan : List Pos) : List Int → St → Int → Except Int Int
  | [], _, n => .ok n
  | f :: F, s, n => match turnR g plan s f with
    | .error e => .error e
    | .ok x => lostL g plan F x.1 (n + x.2)
/-- how many vehicles fail -/
def cntF : List Int → Int
  | [] => 0
  | f :: F => (if 0 ≤ f then 1 else 0) + cntF F
theorem cntF_nonneg : ∀ F : List Int, 0 ≤ cntF F
  | [] => Int.le_refl _
  | f :: F => by
    have := cntF_nonneg F
    unfold cntF
    split <;> omega
theorem failO_none (n : Nat) : ∀ F : List Int, F.foldl (failStep n) none = none
  | [] => rfl
  | _ :: F => failO_none n F
theorem fail_cnt {n : Nat} : ∀ {F : List Int} {x y : List Bool × Int}, F.foldl (failStep n) (some x) = some y → y.2 = x.2 + cntF F ∧ ∀ f ∈ F, f = -1 ∨ ∃ v : Nat, f = v ∧ v < n
  | [], x, y, h => by
    cases h
    exact ⟨by unfold cntF; omega, fun _ h => (by cases h)⟩
  | f :: F, x, y, h => by
    rw [List.foldl_cons] at h
    by_cases hb : f < -1 ∨ (n : Int) ≤ f ∨ (0 ≤ f ∧ bg x.1 f.toNat = true)
    · have e : failStep n (some x) f = none := if_pos hb
      rw [e, failO_none] at h
      cases h
    · by_cases h0 : 0 ≤ f
      · have e : failStep n (some x) f = some (x.1.set f.toNat true, x.2 + 1) := by
          show (if _ then _ else _) = _
          rw [if_neg hb, if_pos h0]
        rw [e] at h
        obtain ⟨h1, h2⟩ := fail_cnt h
        refine ⟨by unfold cntF; rw [if_pos h0]; have h1' : y.2 = x.2 + 1 + cntF F := h1; omega, fun k hk => ?_⟩
        rcases List.mem_cons.1 hk with rfl | hk
        · exact .inr ⟨k.toNat, by omega, by omega⟩
        · exact h2 k hk
      · have e : failStep n (some x) f = some x := by
          show (if _ then _ else _) = _
          rw [if_neg hb, if_neg h0]
        rw [e] at h
        obtain ⟨h1, h2⟩ := fail_cnt h
        refine ⟨by unfold cntF; rw [if_neg h0]; omega, fun k hk => ?_⟩
        rcases List.mem_cons.1 hk with rfl | hk
        · exact .inl (by omega)
        · exact h2 k hk
theorem turn_dom {g : Gm} (hv : VG g) {plan : List Pos} {s : St} {f : Int} (hD : Dom g s) (ht : s.turn < g.deps.length) (hb : (if 0 ≤ f then 1 else 0) ≤ s.budget) (_hf : f = -1 ∨ ∃ v : Nat, f = v ∧ v < g.starts.length) :
    Dom g (hitF s f) ∧ ∀ x, turnR g plan s f = .ok x → Dom g x.1 ∧ x.1.turn = s.turn + 1 ∧ x.1.budget = s.budget - (if 0 ≤ f then 1 else 0) ∧ (x.2 = 0 ∨ x.2 = 1) := by
  have h2 : Dom g (hitF s f) ∧ (hitF s f).turn = s.turn ∧ (hitF s f).budget = s.budget - (if 0 ≤ f then 1 else 0) := by
    unfold hitF
    by_cases h0 : 0 ≤ f
    · rw [if_pos h0] at hb ⊢
      rw [if_pos h0]
      refine ⟨⟨hD.ls, by show (s.failed.set _ true).length = _; rw [List.length_set]; exact hD.lf, hD.t0, hD.tn, by have := hD.b0; show s.budget - 1 ≤ _; omega, by show 0 ≤ s.budget - 1; omega, hD.st⟩, rfl, rfl⟩
    · rw [if_neg h0, if_neg h0]
      exact ⟨hD, rfl, by omega⟩
  obtain ⟨hd, e1, e2⟩ := h2
  refine ⟨hd, fun x hx => ?_⟩
  unfold turnR at hx
  cases hp : posAt plan (hitF s f) with
  | none => rw [hp] at hx; cases hx
  | some p =>
    rw [hp] at hx
    simp only at hx
    split at hx
    · cases hx
      exact ⟨hd.after (by omega) (.inl rfl), by show (hitF s f).turn + 1 = _; rw [e1], by show (hitF s f).budget = _; exact e2, .inr rfl⟩
    · split at hx
      · rename_i hc
        cases hx
        refine ⟨hd.after (by omega) (.inr ?_), by show (hitF s f).turn + 1 = _; rw [e1], by show (hitF s f).budget = _; exact e2, .inl rfl⟩
        have hpr := okDep_domG (hv.2.2.2.2.2 (hitF s f).turn.toNat (by have := hd.t0; omega)) hc.1
        have := hd.st p.choice.toNat (by rw [hd.ls]; omega)
        have := hc.2.2
        omega
      · cases hx
theorem turnR_err {g : Gm} {plan : List Pos} {s : St} {f n : Int} (h : turnR g plan s f = .error n) : n = 2 ∨ n = 5 := by
  unfold turnR at h
  cases hp : posAt plan (hitF s f) with
  | none => rw [hp] at h; cases h; exact .inl rfl
  | some p =>
    rw [hp] at h
    simp only at h
    split at h
    · cases h
    · split at h
      · cases h
      · cases h; exact .inr rfl
end Go.Proofs.Ytgccankekflchaa
namespace Go.Proofs.Ytgccankekflchaa
open Go.RowKit Go.Maps

noncomputable def lostV (g : Gm) (plan : List Pos) (F : List Int) : Value := open Classical in
  if VG g ∧ AllowG g F then (match lostL g plan F (beginS g) 0 with
    | .ok n => .tuple #[.int .i64 n, .int .i64 0]
    | .error e => .tuple #[.int .i64 0, .int .i64 e]) else .tuple #[.int .i64 0, .int .i64 1]
theorem lostV_no {g : Gm} {plan : List Pos} {F : List Int} (h : ¬ (VG g ∧ AllowG g F)) : lostV g plan F = .tuple #[.int .i64 0, .int .i64 1] := if_neg h
set_option maxRecDepth 100000 in
set_option maxHeartbeats 8000000 in
theorem lost_any (g : Gm) (sa da : Option Addr) (sc dc : Nat) (l : List PA) (a : Option Addr) (c : Nat) (F : List Int) (fa : Option Addr) (fc : Nat) (w : World) (hG : GmAt w g sa da) (hfw : GmFew g) (hL : LaP w a l) (hI : InP l) (hll : l.length ≤ 1000000000) (hFi : Ints w fa F) (hFl : F.length ≤ 1000) :
    Calls Try.prog 10 #[gmV g sa sc da dc, .slice a l.length c, .slice fa F.length fc] w (RetB (lostV g (l.map (·.1)) F) w) := by
  have _u := hFl; clear _u
  have hvl := fun wy (hy : Below w.heap.size w wy) => valid_anyG g sa da sc dc wy (hG.later hy) hfw
  have hnp := fun wy (hy : Below w.heap.size w wy) => newp_any g sa da sc dc l a c wy (hL.later hy) hI hll
  have HG := Lib.hid hG
  have HFI := Lib.hid hFi
  obtain ⟨n, hn⟩ : ∃ n, n = g.starts.length := ⟨_, rfl⟩
  obtain ⟨nd, hnd⟩ : ∃ n, n = g.deps.length := ⟨_, rfl⟩
  obtain ⟨bu, hbu⟩ : ∃ n, n = g.budget := ⟨_, rfl⟩
  obtain ⟨nf, hnf⟩ : ∃ n, n = F.length := ⟨_, rfl⟩
  obtain ⟨ll, hll2⟩ : ∃ n, n = l.length := ⟨_, rfl⟩
  simp only [gmV, ← hn, ← hnd, ← hbu, ← hnf, ← hll2] at hvl hnp ⊢
  rw [← hnf] at hFl
  have HN := Lib.hid (And.intro hn (And.intro hnd hbu))
  have HNF := Lib.hid hnf
  have HVL := Lib.hid hvl
  have HNP := Lib.hid hnp
  clear hG hL hI hll hFi hn hnd hbu hnf hll2 hvl hnp hfw
  go_enter_defers Try.func10, Try.ntmps10
  go_upto_region 1 with fail
  refine wp_named ?_
  intro w1 hw1
  obtain ⟨hb1, hs1, hg1, hl1, he1⟩ := alloc3P w [.slice sa n sc, .slice da nd dc, .int .i64 bu] [.int .i64 0] [.int .i64 0] _ _ _ w1 hw1
  have HB1 := Lib.hid hb1
  have HG1 := Lib.hid hg1
  have HL1 := Lib.hid hl1
  have HE1 := Lib.hid he1
  have c0 := (hg1 0 _ rfl).1
  have c1 := (hg1 1 _ rfl).1
  have c2 := (hg1 2 _ rfl).1
  clear hw1 hb1 hs1 hg1 hl1 he1
  go_wp2_with fail
  refine Calls.mono (HVL.out w1 HB1.out) ?_
  rintro e w2 ⟨rfl, hb2⟩
  have HB2 := Lib.hid (HB1.out.trans (hb2.mono HB1.out.size))
  have HG2 := Lib.hid (HG1.out.later hb2)
  have HL2 := Lib.hid (HL1.out.later hb2)
  have HE2 := Lib.hid (HE1.out.later hb2)
  have c0 := (HG2.out 0 _ rfl).1
  have c1 := (HG2.out 1 _ rfl).1
  have c2 := (HG2.out 2 _ rfl).1
  obtain ⟨l0, l0f⟩ := HL2.out 0 _ rfl
  obtain ⟨e0, e0f⟩ := HE2.out 0 _ rfl
  clear hb2
  rcases Classical.em (¬ VG g) with hv | hv
  · have HO := Lib.hid (lostV_no (plan := l.map (·.1)) (F := F) (g := g) fun h => hv h.1)
    rw [vgB_false hv]
    clear hv
    go_wp2_with fail
    obtain ⟨W9, hW9⟩ : ∃ W9, W9 = ((w2).setCell ⟨w.heap.size + 1, 0, none⟩ (.int .i64 0)).setCell ⟨w.heap.size + 1 + 1, 0, none⟩ (.int .i64 1) := ⟨_, rfl⟩
    have hb9 : Below w.heap.size w W9 := by
      rw [hW9]
      exact ((HB2).out.setCell (p := ⟨w.heap.size + 1, 0, none⟩) (show w.heap.size ≤ w.heap.size + 1 by omega) _).setCell (p := ⟨w.heap.size + 1 + 1, 0, none⟩) (show w.heap.size ≤ w.heap.size + 1 + 1 by omega) _
    have z0 : W9.cell? ⟨w.heap.size + 1, 0, none⟩ = some (.int .i64 0) := by
      rw [hW9, World.cell?_setCell_other _ _ _ _ (by simp), World.cell?_setCell_same _ _ _ l0]
    have z1 : W9.cell? ⟨w.heap.size + 1 + 1, 0, none⟩ = some (.int .i64 1) := by
      rw [hW9]
      exact World.cell?_setCell_same _ _ _ (by rw [World.cell?_setCell_other _ _ _ _ (by simp)]; exact e0)
    rw [← hW9]
    refine ⟨.tuple #[.int .i64 0, .int .i64 1], by simp [results, Try.f10, go_sem, z0, z1], ?_⟩
    exact retB (by rw [HO.out]) hb9
  replace hv : VG g := Classical.not_not.1 hv
  have HV := Lib.hid hv
  rw [vgB_true hv]
  have hn6 : n ≤ 6 := by rw [HN.out.1]; exact hv.1
  have hnd12 : nd ≤ 12 := by rw [HN.out.2.1]; exact hv.2.1
  have hbu3 : 0 ≤ bu ∧ bu ≤ 3 := by rw [HN.out.2.2]; exact ⟨hv.2.2.1, hv.2.2.2.1⟩
  clear hv
  by_cases hlen : nf = nd
  · obtain ⟨k0, hk0⟩ : ∃ k, k = nf := ⟨_, rfl⟩
    have hnn : (nf : Int) = (nd : Int) := by omega
    have hnb : ((nf : Int) == (nd : Int)) = true := by simpa using hnn
    have hneq : nf = nd := hlen
    go_upto_region 4 with fail
    refine wp_named ?_
    intro w3 hw3
    obtain ⟨hb3, hs3, hx3, -⟩ := alloc1 w2 ((List.replicate 6 false).map Value.bool) _ w3 hw3
    have HB3 := Lib.hid hb3
    have HX3 := Lib.hid hx3
    have HB3W := Lib.hid (HB2.out.trans (hb3.mono HB2.out.size))
    have HG3 := Lib.hid (HG2.out.later hb3)
    have HL3 := Lib.hid (HL2.out.later hb3)
    have HE3 := Lib.hid (HE2.out.later hb3)
    have HLT3 := Lib.hid (show w.heap.size + 1 + 1 < w2.heap.size from HE2.out.lt)
    clear hw3 hb3 hs3 hx3 c0 c1 c2 l0 l0f e0 e0f hnb
    go_wp2_with fail
    go_loopg [9, 30] (nf + 1) (fun gk v9 v30 wr => ∃ (i : Nat) (fb : List Bool) (cnt : Int), i ≤ nf ∧ gk + i = nf + 1 ∧ v30 = .int .i64 i ∧ v9 = .int .i64 cnt ∧ fb.length = 6 ∧ 0 ≤ cnt ∧ cnt ≤ i ∧ (F.take i).foldl (failStep n) (some (List.replicate 6 false, 0)) = some (fb, cnt) ∧ BoxAt wr w2.heap.size (fb.map Value.bool) ∧ Chg (fun b => b = w2.heap.size) w3 wr)
    case atStart => exact ⟨0, List.replicate 6 false, 0, by omega, by omega, rfl, rfl, rfl, Int.le_refl _, Int.le_refl _, rfl, HX3.out, Chg.refl _ _⟩
    case round =>
      obtain ⟨i, fb, cnt, hi, hgi, rfl, rfl, hfl, hc0, hc1, hfo, hbx, hch⟩ := hrel
      obtain ⟨wq, hwq⟩ : ∃ wq, wq = wr := ⟨_, rfl⟩
      subst hwq
      have HFO := Lib.hid hfo
      have HBX := Lib.hid hbx
      have HCH := Lib.hid hch
      have HFL6 := Lib.hid hfl
      have HBQ := Lib.hid (show Below w.heap.size w wq from HB3W.out.trans (hch.below HB3W.out.size fun b e => by rw [e]; exact HB2.out.size))
      have HGQ := Lib.hid (HG3.out.chg hch (by have := HLT3.out; omega) HG3.out.lt)
      have HLQ := Lib.hid (HL3.out.chg hch (by have := HLT3.out; omega) HL3.out.lt)
      have HEQ := Lib.hid (HE3.out.chg hch (by have := HLT3.out; omega) HE3.out.lt)
      have c0 := (HGQ.out 0 _ rfl).1
      have c2 := (HGQ.out 2 _ rfl).1
      obtain ⟨l0, l0f⟩ := HLQ.out 0 _ rfl
      obtain ⟨e0, e0f⟩ := HEQ.out 0 _ rfl
      clear hfo hbx hch hfl
      by_cases hlt : i < nf
      · obtain ⟨eb, eo, rfl, fp⟩ := HFI.out.fam (by have := HNF.out; omega)
        have kq := cell_later HBQ.out (fp i (by have := HNF.out; omega))
        obtain ⟨v, hv⟩ : ∃ v, v = ig F i := ⟨_, rfl⟩
        rw [← hv] at kq
        have hnx : (F.take (i + 1)).foldl (failStep n) (some (List.replicate 6 false, 0)) = failStep n (some (fb, cnt)) v := by
          have hiF : i < F.length := by have := HNF.out; omega
          rw [take_snoc hiF, List.foldl_append, HFO.out, hv, ig_lt hiF]
          rfl
        have hno : failStep n (some (fb, cnt)) v = none → ¬ (VG g ∧ AllowG g F) := fun h hh => by
          obtain ⟨_, x, hx, _⟩ := hh.2
          unfold failO at hx
          rw [← HN.out.1, ← List.take_append_drop (i + 1) F, List.foldl_append, hnx, h, failO_none] at hx
          cases hx
        have HNO := Lib.hid hno
        have HNX := Lib.hid hnx
        have i1 : (i : Int) < (nf : Int) := by omega
        have i0 : (0 : Int) ≤ (i : Int) := by omega
        have HLT := Lib.hid hlt
        clear fp hv hnx hno hlt
        by_cases hm : v < -1
        · have g1 : decide (v < (-1 : Int)) = true := decide_eq_true hm
          have HO := Lib.hid (lostV_no (plan := l.map (·.1)) (HNO.out (if_pos (.inl hm))))
          go_wp2_with fail
          obtain ⟨W9, hW9⟩ : ∃ W9, W9 = ((wq).setCell ⟨w.heap.size + 1, 0, none⟩ (.int .i64 0)).setCell ⟨w.heap.size + 1 + 1, 0, none⟩ (.int .i64 1) := ⟨_, rfl⟩
          have hb9 : Below w.heap.size w W9 := by
            rw [hW9]
            exact ((HBQ).out.setCell (p := ⟨w.heap.size + 1, 0, none⟩) (show w.heap.size ≤ w.heap.size + 1 by omega) _).setCell (p := ⟨w.heap.size + 1 + 1, 0, none⟩) (show w.heap.size ≤ w.heap.size + 1 + 1 by omega) _
          have z0 : W9.cell? ⟨w.heap.size + 1, 0, none⟩ = some (.int .i64 0) := by
            rw [hW9, World.cell?_setCell_other _ _ _ _ (by simp), World.cell?_setCell_same _ _ _ l0]
          have z1 : W9.cell? ⟨w.heap.size + 1 + 1, 0, none⟩ = some (.int .i64 1) := by
            rw [hW9]
            exact World.cell?_setCell_same _ _ _ (by rw [World.cell?_setCell_other _ _ _ _ (by simp)]; exact e0)
          rw [← hW9]
          refine ⟨.tuple #[.int .i64 0, .int .i64 1], by simp [results, Try.f10, go_sem, z0, z1], ?_⟩
          exact retB (by rw [HO.out]) hb9
        have g1 : decide (v < (-1 : Int)) = false := decide_eq_false hm
        by_cases hn2 : (n : Int) ≤ v
        · have g2 : decide ((n : Int) ≤ v) = true := decide_eq_true hn2
          have HO := Lib.hid (lostV_no (plan := l.map (·.1)) (HNO.out (if_pos (.inr (.inl hn2)))))
          go_wp2_with fail
          obtain ⟨W9, hW9⟩ : ∃ W9, W9 = ((wq).setCell ⟨w.heap.size + 1, 0, none⟩ (.int .i64 0)).setCell ⟨w.heap.size + 1 + 1, 0, none⟩ (.int .i64 1) := ⟨_, rfl⟩
          have hb9 : Below w.heap.size w W9 := by
            rw [hW9]
            exact ((HBQ).out.setCell (p := ⟨w.heap.size + 1, 0, none⟩) (show w.heap.size ≤ w.heap.size + 1 by omega) _).setCell (p := ⟨w.heap.size + 1 + 1, 0, none⟩) (show w.heap.size ≤ w.heap.size + 1 + 1 by omega) _
          have z0 : W9.cell? ⟨w.heap.size + 1, 0, none⟩ = some (.int .i64 0) := by
            rw [hW9, World.cell?_setCell_other _ _ _ _ (by simp), World.cell?_setCell_same _ _ _ l0]
          have z1 : W9.cell? ⟨w.heap.size + 1 + 1, 0, none⟩ = some (.int .i64 1) := by
            rw [hW9]
            exact World.cell?_setCell_same _ _ _ (by rw [World.cell?_setCell_other _ _ _ _ (by simp)]; exact e0)
          rw [← hW9]
          refine ⟨.tuple #[.int .i64 0, .int .i64 1], by simp [results, Try.f10, go_sem, z0, z1], ?_⟩
          exact retB (by rw [HO.out]) hb9
        have g2 : decide ((n : Int) ≤ v) = false := decide_eq_false hn2
        have hcs : v = -1 ∨ (∃ kn : Nat, v = kn ∧ kn < n ∧ bg fb kn = true) ∨ (∃ kn : Nat, v = kn ∧ kn < n ∧ bg fb kn = false) := by
          by_cases h0 : 0 ≤ v
          · right
            cases hb : bg fb v.toNat
            · exact .inr ⟨v.toNat, by omega, by omega, hb⟩
            · exact .inl ⟨v.toNat, by omega, by omega, hb⟩
          · exact .inl (by omega)
        rcases hcs with rfl | ⟨kn, rfl, hkn, hb⟩ | ⟨kn, rfl, hkn, hb⟩
        · have HNX2 := Lib.hid (show (F.take (i + 1)).foldl (failStep n) (some (List.replicate 6 false, 0)) = some (fb, cnt) from by
            rw [HNX.out]
            show (if _ then _ else _) = _
            rw [if_neg (by omega), if_neg (by omega)])
          clear l0 l0f e0 e0f
          go_wp2_with fail
          go_roundg (nf - i)
          case measure => have := HLT.out; omega
          case rel => exact ⟨i + 1, fb, cnt, HLT.out, by have := HLT.out; omega, by go_num, rfl, HFL6.out, hc0, by omega, HNX2.out, HBX.out, HCH.out⟩
        · have hk6 : kn < 6 := by omega
          have ck := (HBX.out kn (.bool true) (by rw [List.getElem?_map, List.getElem?_eq_getElem (by rw [HFL6.out]; exact hk6), ← bg_lt (by rw [HFL6.out]; exact hk6), hb]; rfl)).1
          have k1 : (kn : Int) < 6 := by omega
          have k0' : (0 : Int) ≤ (kn : Int) := by omega
          have k2 : decide ((0 : Int) ≤ (kn : Int)) = true := decide_eq_true k0'
          have HO := Lib.hid (lostV_no (plan := l.map (·.1)) (HNO.out (if_pos (.inr (.inr ⟨by omega, by rw [Int.toNat_natCast]; exact hb⟩)))))
          go_wp2_with fail
          obtain ⟨W9, hW9⟩ : ∃ W9, W9 = ((wq).setCell ⟨w.heap.size + 1, 0, none⟩ (.int .i64 0)).setCell ⟨w.heap.size + 1 + 1, 0, none⟩ (.int .i64 1) := ⟨_, rfl⟩
          have hb9 : Below w.heap.size w W9 := by
            rw [hW9]
            exact ((HBQ).out.setCell (p := ⟨w.heap.size + 1, 0, none⟩) (show w.heap.size ≤ w.heap.size + 1 by omega) _).setCell (p := ⟨w.heap.size + 1 + 1, 0, none⟩) (show w.heap.size ≤ w.heap.size + 1 + 1 by omega) _
          have z0 : W9.cell? ⟨w.heap.size + 1, 0, none⟩ = some (.int .i64 0) := by
            rw [hW9, World.cell?_setCell_other _ _ _ _ (by simp), World.cell?_setCell_same _ _ _ l0]
          have z1 : W9.cell? ⟨w.heap.size + 1 + 1, 0, none⟩ = some (.int .i64 1) := by
            rw [hW9]
            exact World.cell?_setCell_same _ _ _ (by rw [World.cell?_setCell_other _ _ _ _ (by simp)]; exact e0)
          rw [← hW9]
          refine ⟨.tuple #[.int .i64 0, .int .i64 1], by simp [results, Try.f10, go_sem, z0, z1], ?_⟩
          exact retB (by rw [HO.out]) hb9
        · have hk6 : kn < 6 := by omega
          obtain ⟨ck, ckf⟩ := HBX.out kn (.bool false) (by rw [List.getElem?_map, List.getElem?_eq_getElem (by rw [HFL6.out]; exact hk6), ← bg_lt (by rw [HFL6.out]; exact hk6), hb]; rfl)
          have k1 : (kn : Int) < 6 := by omega
          have k0' : (0 : Int) ≤ (kn : Int) := by omega
          have k2 : decide ((0 : Int) ≤ (kn : Int)) = true := decide_eq_true k0'
          have HNX2 := Lib.hid (show (F.take (i + 1)).foldl (failStep n) (some (List.replicate 6 false, 0)) = some (fb.set kn true, cnt + 1) from by
            rw [HNX.out]
            show (if _ then _ else _) = _
            rw [if_neg (by rintro (h | h | ⟨_, h⟩) <;> first | omega | (rw [Int.toNat_natCast, hb] at h; cases h)), if_pos (by omega), Int.toNat_natCast])
          have wc : IntKind.i64.wrap (cnt + 1) = cnt + 1 := IntWalk.i64_in _ (by omega)
          clear l0 l0f e0 e0f hb
          go_upto_region 12 with fail
          refine wp_named ?_
          intro w5 hw5
          have hx5 : BoxAt w5 w2.heap.size ((fb.set kn true).map Value.bool) := by
            rw [hw5, List.map_set]
            exact HBX.out.put kn _ (by rw [List.length_map, HFL6.out]; exact hk6)
          have hc5 : Chg (fun b => b = w2.heap.size) w3 w5 := HCH.out.trans (by rw [hw5]; exact Chg.setCell (S := fun b => b = w2.heap.size) (Chg.refl _ _) (p := ⟨w2.heap.size, kn, none⟩) (fun _ => rfl) _)
          have HX5 := Lib.hid hx5
          have HC5 := Lib.hid hc5
          clear hw5 hx5 hc5 ck ckf
          go_wp2_with fail
          go_roundg (nf - i)
          case measure => have := HLT.out; omega
          case rel => exact ⟨i + 1, fb.set kn true, cnt + 1, HLT.out, by have := HLT.out; omega, by go_num, rfl, by rw [List.length_set]; exact HFL6.out, by omega, by omega, HNX2.out, HX5.out, HC5.out⟩
      · obtain rfl : nf = i := by omega
        have hfin : failO g.starts.length F = some (fb, cnt) := by
          have h := HFO.out
          rw [List.take_of_length_le (by rw [HNF.out]; exact Nat.le_refl _)] at h
          rw [← HN.out.1]
          exact h
        have c1 := (HGQ.out 1 _ rfl).1
        by_cases hbg : bu < cnt
        · have g1 : decide (bu < cnt) = true := decide_eq_true hbg
          have HO := Lib.hid (lostV_no (plan := l.map (·.1)) (F := F) (g := g) fun h => by
            obtain ⟨_, x, hx, hle⟩ := h.2
            rw [hfin] at hx
            cases hx
            have h2 : cnt ≤ g.budget := hle
            rw [← HN.out.2.2] at h2
            omega)
          clear hfin
          go_wp2_with fail
          obtain ⟨W9, hW9⟩ : ∃ W9, W9 = ((wq).setCell ⟨w.heap.size + 1, 0, none⟩ (.int .i64 0)).setCell ⟨w.heap.size + 1 + 1, 0, none⟩ (.int .i64 1) := ⟨_, rfl⟩
          have hb9 : Below w.heap.size w W9 := by
            rw [hW9]
            exact ((HBQ).out.setCell (p := ⟨w.heap.size + 1, 0, none⟩) (show w.heap.size ≤ w.heap.size + 1 by omega) _).setCell (p := ⟨w.heap.size + 1 + 1, 0, none⟩) (show w.heap.size ≤ w.heap.size + 1 + 1 by omega) _
          have z0 : W9.cell? ⟨w.heap.size + 1, 0, none⟩ = some (.int .i64 0) := by
            rw [hW9, World.cell?_setCell_other _ _ _ _ (by simp), World.cell?_setCell_same _ _ _ l0]
          have z1 : W9.cell? ⟨w.heap.size + 1 + 1, 0, none⟩ = some (.int .i64 1) := by
            rw [hW9]
            exact World.cell?_setCell_same _ _ _ (by rw [World.cell?_setCell_other _ _ _ _ (by simp)]; exact e0)
          rw [← hW9]
          refine ⟨.tuple #[.int .i64 0, .int .i64 1], by simp [results, Try.f10, go_sem, z0, z1], ?_⟩
          exact retB (by rw [HO.out]) hb9
        · have g1 : decide (bu < cnt) = false := decide_eq_false hbg
          have hal : AllowG g F := ⟨by rw [← HNF.out, ← HN.out.2.1]; exact hneq, _, hfin, by show cnt ≤ g.budget; rw [← HN.out.2.2]; omega⟩
          have HAL := Lib.hid hal
          have hfc := fail_cnt (n := g.starts.length) hfin
          have HFC := Lib.hid (show cntF F ≤ g.budget ∧ ∀ f ∈ F, f = -1 ∨ ∃ v : Nat, f = v ∧ v < g.starts.length from ⟨by have h1 := hfc.1; have h2 : cnt = 0 + cntF F := h1; rw [← HN.out.2.2]; omega, hfc.2⟩)
          have hmf : ∀ (fn : Fn) (first cap : Array Value) (w : World), (Instr.makeFunc fn first cap).run Try.prog w = .ok (.func fn first cap) w := fun _ _ _ _ => rfl
          clear hfin hal hfc hlt hi hgi l0 l0f e0 e0f
          go_wp2_with fail
          refine Calls.mono (HNP.out wq HBQ.out) ?_
          rintro e w6 ⟨M, k, rfl, hMlo, hM6, hb6⟩
          have hbdv : bdV g sa sc da dc M = .agg #[.slice sa n sc, .slice da nd dc, .int .i64 bu, .map (some M)] := by unfold bdV; rw [← HN.out.1, ← HN.out.2.1, ← HN.out.2.2]
          have hbg2 := fun wy (hy : Below w.heap.size w wy) => begin_any g sa da sc dc M wy (HG.out.later hy) HV.out
          rw [hbdv] at hbg2
          rw [hbdv]
          have HBD := Lib.hid hbdv
          have HB6 := Lib.hid (HBQ.out.trans (hb6.mono HBQ.out.size))
          have HL6 := Lib.hid (HLQ.out.later hb6)
          have HE6 := Lib.hid (HEQ.out.later hb6)
          have HM6 := Lib.hid hM6
          have HMLO := Lib.hid (show w.heap.size + 1 + 1 < M from by have h1 := HEQ.out.lt; omega)
          have HBG2 := Lib.hid hbg2
          have HZ6 := Lib.hid (show w.heap.size + 1 + 1 < w6.heap.size from by have h1 := HEQ.out.lt; have h2 := hb6.size; omega)
          clear hM6 hb6 hbg2 hbdv c0 c1 c2 hMlo
          go_upto_region 19 with fail
          refine wp_named ?_
          intro w7 hw7
          obtain ⟨hb7, hs7, hp7, -⟩ := alloc1 w6 [.slice sa n sc, .slice da nd dc, .int .i64 bu, .map (some M)] _ w7 hw7
          obtain ⟨P, hP⟩ : ∃ P, P = w6.heap.size := ⟨_, rfl⟩
          rw [← hP] at hp7
          have HB7 := Lib.hid (HB6.out.trans (hb7.mono HB6.out.size))
          have HL7 := Lib.hid (HL6.out.later hb7)
          have HE7 := Lib.hid (HE6.out.later hb7)
          have HM7 := Lib.hid (HM6.out.later hb7)
          have HP7 := Lib.hid hp7
          have HPE := Lib.hid hP
          have p0 := (hp7 0 _ rfl).1
          have p1 := (hp7 1 _ rfl).1
          have p2 := (hp7 2 _ rfl).1
          have p3 := (hp7 3 _ rfl).1
          rw [hP] at p0 p1 p2 p3
          clear hw7 hb7 hs7 hp7 hP
          go_wp2_with fail
          refine Calls.mono (HBG2.out w7 HB7.out) ?_
          rintro e w8 ⟨rfl, hb8⟩
          have HB8 := Lib.hid (HB7.out.trans (hb8.mono HB7.out.size))
          have HL8 := Lib.hid (HL7.out.later hb8)
          have HE8 := Lib.hid (HE7.out.later hb8)
          have HM8 := Lib.hid (HM7.out.later hb8)
          have HP8 := Lib.hid (HP7.out.later hb8)
          have hZ8 : BoxAt (w8.alloc (.cells pyZ.toArray 92)) w8.heap.size pyZ := BoxAt.new _ _ _
          have HZ8 := Lib.hid hZ8
          obtain ⟨C, hC⟩ : ∃ C, C = pyC (beginS g) := ⟨_, rfl⟩
          unfold pyV
          rw [← hC]
          have HC := Lib.hid hC
          have hlenC : C.length = 15 := by rw [hC]; rfl
          have honeC : ∀ u ∈ C, u.oneCell' = true := by rw [hC]; exact pyC_one _
          have HLC := Lib.hid hlenC
          have HOC := Lib.hid honeC
          clear hb8 p0 p1 p2 p3 hZ8 hC hlenC honeC
          go_upto_region 20 with (refine wpList_store_mid rfl 92 _ _ rfl w8.heap.size 0 C.toArray rfl rfl (box_there HZ8.out (by rw [List.size_toArray, HLC.out]; rfl)) (by rw [List.size_toArray, HLC.out]; kernel_rfl) (all_oneCell_toArray HOC.out) ?_)
          refine wp_named ?_
          intro w9 hw9
          have hb9 : Below w8.heap.size w8 w9 := by rw [hw9]; exact below_setCells _ _ _ _ ((Below.refl _ _).alloc (Nat.le_refl _) _) (Nat.le_refl _)
          have HX9 := Lib.hid (show BoxAt w9 w8.heap.size (pyC (beginS g)) from by rw [hw9, ← HC.out]; exact HZ8.out.stored (by rw [HLC.out]; rfl))
          have HB9 := Lib.hid (HB8.out.trans (hb9.mono HB8.out.size))
          have HL9 := Lib.hid (HL8.out.later hb9)
          have HE9 := Lib.hid (HE8.out.later hb9)
          have HM9 := Lib.hid (HM8.out.later hb9)
          have HP9 := Lib.hid (HP8.out.later hb9)
          have HNE9 := Lib.hid (show w.heap.size + 1 + 1 < P ∧ P < w8.heap.size ∧ M < w8.heap.size from ⟨by rw [HPE.out]; exact HZ6.out, HP8.out.lt, HM8.out.lt⟩)
          clear hw9 hb9
          obtain ⟨T, hT⟩ : ∃ T, T = w8.heap.size := ⟨_, rfl⟩
          rw [← hT] at HX9 HNE9 ⊢
          clear hT
          obtain ⟨RS, hRS⟩ : ∃ R, R = lostL g (l.map (·.1)) F (beginS g) 0 := ⟨_, rfl⟩
          have HRS := Lib.hid (show ∀ r, RS = r → lostV g (l.map (·.1)) F = (match r with
            | .ok n => .tuple #[.int .i64 n, .int .i64 0]
            | .error e => .tuple #[.int .i64 0, .int .i64 e]) from fun r hr => by
              unfold lostV
              rw [if_pos ⟨HV.out, HAL.out⟩, ← hRS, hr])
          have HR0 := Lib.hid (show RS = lostL g (l.map (·.1)) (F.drop 0) (beginS g) 0 from by rw [List.drop_zero]; exact hRS)
          clear hRS
          go_wp2_with fail
          go_loopg [71] (nf + 1) (fun gk v71 wr => ∃ (j : Nat) (s : St) (x : Int), j ≤ nf ∧ gk + j = nf + 1 ∧ v71 = .int .i64 j ∧ 0 ≤ x ∧ x ≤ j ∧ Dom g s ∧ s.turn = j ∧ cntF (F.drop j) ≤ s.budget ∧ RS = lostL g (l.map (·.1)) (F.drop j) s x ∧ BoxAt wr T (pyC s) ∧ BoxAt wr (w.heap.size + 1) [.int .i64 x] ∧ BoxAt wr (w.heap.size + 1 + 1) [.int .i64 0] ∧ BoxAt wr P [.slice sa n sc, .slice da nd dc, .int .i64 bu, .map (some M)] ∧ MapIs Try.prog 92 wr M k (choF (l.map (·.1))) ∧ Below w.heap.size w wr)
          case atStart => exact ⟨0, beginS g, 0, by omega, by omega, rfl, Int.le_refl _, Int.le_refl _, Dom.begin HV.out, rfl, by rw [List.drop_zero]; exact HFC.out.1, HR0.out, HX9.out, HL9.out, HE9.out, HP9.out, HM9.out, HB9.out⟩
          case round =>
            obtain ⟨j, s, x, hj, hgj, rfl, hx0, hxj, hD, hst, hcb, hrs, hxb, hlb, heb, hpb, hmb, hbr⟩ := hrel
            obtain ⟨wz, hwz⟩ : ∃ wz, wz = wr := ⟨_, rfl⟩
            subst hwz
            have HD := Lib.hid hD
            have HST := Lib.hid hst
            have HCB := Lib.hid hcb
            have HR2 := Lib.hid hrs
            have HXB := Lib.hid hxb
            have HLB := Lib.hid hlb
            have HEB := Lib.hid heb
            have HPB := Lib.hid hpb
            have HMB := Lib.hid hmb
            have HBZ := Lib.hid hbr
            obtain ⟨l0, l0f⟩ := hlb 0 _ rfl
            obtain ⟨e0, e0f⟩ := heb 0 _ rfl
            clear hD hst hcb hrs hxb hlb heb hpb hmb hbr
            by_cases hlt : j < nf
            · have hjF : j < F.length := by have := HNF.out; omega
              obtain ⟨eb, eo, rfl, fp⟩ := HFI.out.fam (by omega)
              have kq := cell_later HBZ.out (fp j hjF)
              have hdr : F.drop j = ig F j :: F.drop (j + 1) := by rw [List.drop_eq_getElem_cons hjF, ig_lt hjF]
              have hff := HFC.out.2 (ig F j) (ig_mem hjF)
              obtain ⟨f, hf⟩ : ∃ f, f = ig F j := ⟨_, rfl⟩
              rw [← hf] at kq hdr hff
              have hcb := HCB.out
              rw [hdr] at hcb
              have hcn := cntF_nonneg (F.drop (j + 1))
              have hcb2 : (if 0 ≤ f then 1 else 0) + cntF (F.drop (j + 1)) ≤ s.budget := hcb
              have htl : s.turn < g.deps.length := by rw [HST.out, ← HN.out.2.1]; omega
              obtain ⟨hd2, htd⟩ := turn_dom HV.out (plan := l.map (·.1)) HD.out htl (by omega) hff
              have htu := turn_any g sa da sc dc M k (l.map (·.1)) s f wz (HG.out.later HBZ.out) HV.out HMB.out HD.out hd2 htl hff
              have hrs := HR2.out
              rw [hdr] at hrs
              have hrs2 : RS = match turnR g (l.map (·.1)) s f with
                | .error e => .error e
                | .ok y => lostL g (l.map (·.1)) (F.drop (j + 1)) y.1 (x + y.2) := hrs
              have herr : ∀ n, turnR g (l.map (·.1)) s f = .error n → n = 2 ∨ n = 5 := fun n h => turnR_err h
              obtain ⟨r, hr⟩ : ∃ r, r = turnR g (l.map (·.1)) s f := ⟨_, rfl⟩
              rw [← hr] at htu hrs2
              simp only [← hr] at htd herr
              obtain ⟨C2, hC2⟩ : ∃ C2, C2 = pyC s := ⟨_, rfl⟩
              rw [HBD.out] at htu
              unfold pyV at htu
              rw [← hC2] at htu HXB
              have HTU := Lib.hid htu
              have HRS2 := Lib.hid hrs2
              have HTD := Lib.hid htd
              have HERR := Lib.hid herr
              have HCN := Lib.hid hcb2
              have HLC2 := Lib.hid (show C2.length = 15 by rw [hC2]; rfl)
              have j1 : (j : Int) < (nf : Int) := by omega
              have j0 : (0 : Int) ≤ (j : Int) := by omega
              have HLT := Lib.hid hlt
              have p0 := (HPB.out 0 _ rfl).1
              have p1 := (HPB.out 1 _ rfl).1
              have p2 := (HPB.out 2 _ rfl).1
              have p3 := (HPB.out 3 _ rfl).1
              rw [HPE.out] at p0 p1 p2 p3
              clear fp hdr hff hf hcb hcn hcb2 htl hd2 htd htu hrs hrs2 herr hr hC2 hlt hjF
              go_wp2_with (refine wpList_load_mid rfl 92 _ rfl T 0 rfl C2 _ (box_range HXB.out) Try.underlying92 rfl (by rw [HLC2.out]; kernel_rfl) ?_)
              refine Calls.mono HTU.out ?_
              rintro e w10 ⟨he, hb10⟩
              cases r with
              | error m =>
                have he2 : e = errP m := he
                subst he2
                have hm := HERR.out m rfl
                have hm0 : m ≠ 0 := by omega
                have HRES := Lib.hid (HRS.out (.error m) HRS2.out)
                obtain ⟨x0, x0f⟩ := (HLB.out.later hb10) 0 _ rfl
                obtain ⟨y0, y0f⟩ := (HEB.out.later hb10) 0 _ rfl
                have hbw := HBZ.out.trans (hb10.mono HBZ.out.size)
                clear p0 p1 p2 p3 kq l0 l0f e0 e0f
                refine leaves_cons (f := 39) (args := #[.pointer (some ⟨w.heap.size + 1 + 1, 0, none⟩)]) (by simp) (by simp [go_sem]) ?_
                refine (stuck_pan ⟨w.heap.size + 1 + 1, 0, none⟩ 0 m [] w10 y0 y0f).mono ?_
                rintro e u' w'' ⟨rfl, rfl, hw''⟩
                rw [hw'']
                obtain ⟨W8, hW8⟩ : ∃ W8, W8 = w10.setCell ⟨w.heap.size + 1 + 1, 0, none⟩ (.int .i64 m) := ⟨_, rfl⟩
                have z0 : W8.cell? ⟨w.heap.size + 1, 0, none⟩ = some (.int .i64 x) := by rw [hW8, World.cell?_setCell_other _ _ _ _ (by simp), x0]
                have z0f : W8.frozen? ⟨w.heap.size + 1, 0, none⟩ = false := by rw [hW8, World.frozen?_setCell]; exact x0f
                have z1 : W8.cell? ⟨w.heap.size + 1 + 1, 0, none⟩ = some (.int .i64 m) := by rw [hW8]; exact World.cell?_setCell_same _ _ _ y0
                have hb8 : Below w.heap.size w W8 := by rw [hW8]; exact hbw.setCell (p := ⟨w.heap.size + 1 + 1, 0, none⟩) (show w.heap.size ≤ w.heap.size + 1 + 1 by omega) _
                rw [← hW8]
                refine leaves_cons (f := 38) (args := #[.pointer (some ⟨w.heap.size + 1 + 1, 0, none⟩), .pointer (some ⟨w.heap.size + 1, 0, none⟩)]) (by simp [settle]) (by simp [go_sem]) ?_
                refine (lost1_err ⟨w.heap.size + 1 + 1, 0, none⟩ ⟨w.heap.size + 1, 0, none⟩ m x _ W8 z1 hm0 z0 z0f).mono ?_
                rintro e u' w'' ⟨rfl, rfl, hw''⟩
                rw [hw'']
                obtain ⟨W9, hW9⟩ : ∃ W9, W9 = W8.setCell ⟨w.heap.size + 1, 0, none⟩ (.int .i64 0) := ⟨_, rfl⟩
                have v0 : W9.cell? ⟨w.heap.size + 1, 0, none⟩ = some (.int .i64 0) := by rw [hW9]; exact World.cell?_setCell_same _ _ _ z0
                have v1 : W9.cell? ⟨w.heap.size + 1 + 1, 0, none⟩ = some (.int .i64 m) := by rw [hW9, World.cell?_setCell_other _ _ _ _ (by simp), z1]
                have hb9 : Below w.heap.size w W9 := by rw [hW9]; exact hb8.setCell (p := ⟨w.heap.size + 1, 0, none⟩) (show w.heap.size ≤ w.heap.size + 1 by omega) _
                rw [← hW9]
                refine ⟨.tuple #[.int .i64 0, .int .i64 m], by simp [results, Try.f10, go_sem, v0, v1], ?_⟩
                exact retB (by rw [HRES.out]) hb9
              | ok y =>
                have he2 : e = .returned (.tuple #[pyV y.1, .int .i64 y.2]) := he
                subst he2
                obtain ⟨hyD, hyt, hyb, hy2⟩ := HTD.out y rfl
                obtain ⟨s', one⟩ := y
                obtain ⟨C4, hC4⟩ : ∃ C4, C4 = pyC s' := ⟨_, rfl⟩
                unfold pyV
                rw [← hC4]
                have HC4 := Lib.hid hC4
                have HLC4 := Lib.hid (show C4.length = 15 by rw [hC4]; rfl)
                have HOC4 := Lib.hid (show ∀ u ∈ C4, u.oneCell' = true by rw [hC4]; exact pyC_one _)
                have HYD := Lib.hid (show Dom g s' from hyD)
                have HYT := Lib.hid (show s'.turn = s.turn + 1 from hyt)
                have HYB := Lib.hid (show s'.budget = s.budget - (if 0 ≤ f then 1 else 0) from hyb)
                have hone : 0 ≤ one ∧ one ≤ 1 := by rcases hy2 with h | h <;> (have h' : one = _ := h; omega)
                have HXB10 := Lib.hid (HXB.out.later hb10)
                have HLB10 := Lib.hid (HLB.out.later hb10)
                have HEB10 := Lib.hid (HEB.out.later hb10)
                have HPB10 := Lib.hid (HPB.out.later hb10)
                have HMB10 := Lib.hid (HMB.out.later hb10)
                have HBW10 := Lib.hid (HBZ.out.trans (hb10.mono HBZ.out.size))
                have HRS3 := Lib.hid (show RS = lostL g (l.map (·.1)) (F.drop (j + 1)) s' (x + one) from HRS2.out)
                clear hyD hyt hyb hy2 hC4 hb10 p0 p1 p2 p3 kq l0 l0f e0 e0f he
                go_upto_region 25 with (refine wpList_store_mid rfl 92 _ _ rfl T 0 C4.toArray rfl rfl (box_there HXB10.out (by rw [List.size_toArray, HLC4.out, HLC2.out])) (by rw [List.size_toArray, HLC4.out]; kernel_rfl) (all_oneCell_toArray HOC4.out) ?_)
                refine wp_named ?_
                intro w11 hw11
                have hne := HNE9.out
                have hml := HMLO.out
                have hc11 : Chg (fun b => b = T) w10 w11 := by rw [hw11]; exact chg_setCells (S := fun b => b = T) (Chg.refl _ _) _ _ _ (fun _ => rfl)
                have HX11 := Lib.hid (show BoxAt w11 T (pyC s') from by rw [hw11, ← HC4.out]; exact HXB10.out.stored (by rw [HLC4.out, HLC2.out]))
                have HL11 := Lib.hid (HLB10.out.chg hc11 (by omega) HLB10.out.lt)
                have HE11 := Lib.hid (HEB10.out.chg hc11 (by omega) HEB10.out.lt)
                have HP11 := Lib.hid (HPB10.out.chg hc11 (by omega) HPB10.out.lt)
                have HM11 := Lib.hid (HMB10.out.block (hc11.block M HMB10.out.lt (by omega)))
                have HB11 := Lib.hid (HBW10.out.trans (hc11.below HBW10.out.size fun b e => by omega))
                obtain ⟨l0, l0f⟩ := HL11.out 0 _ rfl
                have wx : IntKind.i64.wrap (x + one) = x + one := IntWalk.i64_in _ (by omega)
                clear hw11 hc11
                go_upto_region 26 with fail
                refine wp_named ?_
                intro w12 hw12
                have hc12 : Chg (fun b => b = w.heap.size + 1) w11 w12 := by rw [hw12]; exact Chg.setCell (S := fun b => b = w.heap.size + 1) (Chg.refl _ _) (p := ⟨w.heap.size + 1, 0, none⟩) (fun _ => rfl) _
                have HL12 := Lib.hid (show BoxAt w12 (w.heap.size + 1) [.int .i64 (x + one)] from by rw [hw12]; exact HL11.out.put 0 _ (by simp))
                have HX12 := Lib.hid (HX11.out.chg hc12 (by omega) HX11.out.lt)
                have HE12 := Lib.hid (HE11.out.chg hc12 (by omega) HE11.out.lt)
                have HP12 := Lib.hid (HP11.out.chg hc12 (by omega) HP11.out.lt)
                have HM12 := Lib.hid (HM11.out.block (hc12.block M HM11.out.lt (by omega)))
                have HB12 := Lib.hid (HB11.out.trans (hc12.below HB11.out.size fun b e => by omega))
                clear hw12 hc12 l0 l0f wx hne hml
                go_wp2_with fail
                go_roundg (nf - j)
                case measure => have := HLT.out; omega
                case rel => exact ⟨j + 1, s', x + one, HLT.out, by have := HLT.out; omega, by go_num, by omega, by omega, HYD.out, by rw [HYT.out, HST.out]; rfl, by rw [HYB.out]; have := HCN.out; omega, HRS3.out, HX12.out, HL12.out, HE12.out, HP12.out, HM12.out, HB12.out⟩
            · obtain rfl : nf = j := by omega
              have hres := HRS.out (.ok x) (by
                have h := HR2.out
                rw [List.drop_eq_nil_of_le (by rw [HNF.out]; exact Nat.le_refl _)] at h
                exact h)
              have HRES := Lib.hid hres
              clear hlt hj hgj hres
              go_wp2_with fail
              obtain ⟨W9, hW9⟩ : ∃ W9, W9 = (wz.setCell ⟨w.heap.size + 1, 0, none⟩ (.int .i64 x)).setCell ⟨w.heap.size + 1 + 1, 0, none⟩ (.int .i64 0) := ⟨_, rfl⟩
              have hb9 : Below w.heap.size w W9 := by
                rw [hW9]
                exact (HBZ.out.setCell (p := ⟨w.heap.size + 1, 0, none⟩) (show w.heap.size ≤ w.heap.size + 1 by omega) _).setCell (p := ⟨w.heap.size + 1 + 1, 0, none⟩) (show w.heap.size ≤ w.heap.size + 1 + 1 by omega) _
              have z0 : W9.cell? ⟨w.heap.size + 1, 0, none⟩ = some (.int .i64 x) := by
                rw [hW9, World.cell?_setCell_other _ _ _ _ (by simp), World.cell?_setCell_same _ _ _ l0]
              have z1 : W9.cell? ⟨w.heap.size + 1 + 1, 0, none⟩ = some (.int .i64 0) := by
                rw [hW9]
                exact World.cell?_setCell_same _ _ _ (by rw [World.cell?_setCell_other _ _ _ _ (by simp)]; exact e0)
              rw [← hW9]
              clear hW9
              refine leaves_cons (f := 39) (args := #[.pointer (some ⟨w.heap.size + 1 + 1, 0, none⟩)]) (by simp) (by simp [go_sem]) ?_
              refine (stuck_ret ⟨w.heap.size + 1 + 1, 0, none⟩ W9).mono ?_
              rintro e u' w'' ⟨rfl, rfl, hw''⟩
              rw [hw'']
              refine leaves_cons (f := 38) (args := #[.pointer (some ⟨w.heap.size + 1 + 1, 0, none⟩), .pointer (some ⟨w.heap.size + 1, 0, none⟩)]) (by simp [settle]) (by simp [go_sem]) ?_
              refine (lost1_ok ⟨w.heap.size + 1 + 1, 0, none⟩ ⟨w.heap.size + 1, 0, none⟩ _ W9 z1).mono ?_
              rintro e u' w'' ⟨rfl, rfl, hw''⟩
              rw [hw'']
              refine ⟨.tuple #[.int .i64 x, .int .i64 0], by simp [results, Try.f10, go_sem, z0, z1], ?_⟩
              exact retB (by rw [HRES.out]) hb9
  · have HO := Lib.hid (lostV_no (plan := l.map (·.1)) (F := F) (g := g) fun h => hlen (by rw [HNF.out, HN.out.2.1]; exact h.2.1))
    have e1 : ((nf : Int) == (nd : Int)) = false := beq_false_of_ne (by omega)
    have e2 : ¬ ((nf : Int) = (nd : Int)) := by omega
    go_wp2_with fail
    obtain ⟨W9, hW9⟩ : ∃ W9, W9 = ((w2).setCell ⟨w.heap.size + 1, 0, none⟩ (.int .i64 0)).setCell ⟨w.heap.size + 1 + 1, 0, none⟩ (.int .i64 1) := ⟨_, rfl⟩
    have hb9 : Below w.heap.size w W9 := by
      rw [hW9]
      exact ((HB2).out.setCell (p := ⟨w.heap.size + 1, 0, none⟩) (show w.heap.size ≤ w.heap.size + 1 by omega) _).setCell (p := ⟨w.heap.size + 1 + 1, 0, none⟩) (show w.heap.size ≤ w.heap.size + 1 + 1 by omega) _
    have z0 : W9.cell? ⟨w.heap.size + 1, 0, none⟩ = some (.int .i64 0) := by
      rw [hW9, World.cell?_setCell_other _ _ _ _ (by simp), World.cell?_setCell_same _ _ _ l0]
    have z1 : W9.cell? ⟨w.heap.size + 1 + 1, 0, none⟩ = some (.int .i64 1) := by
      rw [hW9]
      exact World.cell?_setCell_same _ _ _ (by rw [World.cell?_setCell_other _ _ _ _ (by simp)]; exact e0)
    rw [← hW9]
    refine ⟨.tuple #[.int .i64 0, .int .i64 1], by simp [results, Try.f10, go_sem, z0, z1], ?_⟩
    exact retB (by rw [HO.out]) hb9
end Go.Proofs.Ytgccankekflchaa
