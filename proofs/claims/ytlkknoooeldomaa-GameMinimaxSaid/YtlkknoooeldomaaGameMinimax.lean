




/- For every game with a departure: its value is the greatest one, over the first move of the adversary, of the least one, over the choices of the planner, of what is lost and the value of the game that remains (at most 6 departures and 4 vehicles, else nothing is said). -/
import Derived.Test.YtlkknoooeldomaaGamT
import Derived.Test.YtlkknoooeldomaaLift
namespace Go.Proofs.Ytlkknoooeldomaa
open Go.ChangeShapes Go.WideShapes Go.ChangeAt Go.RowKit Go.Joins
namespace GameMinimax

/-! ### plain -/
def okMv (g : Gm) (f : Int) : Prop := f = -1 ∨ 0 ≤ f ∧ f < g.starts.length ∧ 0 < g.budget
def stF (g : Gm) (f : Int) : List Int := if 0 ≤ f then g.starts.set f.toNat 0 else g.starts
def buF (g : Gm) (f : Int) : Int := if 0 ≤ f then g.budget - 1 else g.budget
theorem rest_none (g : Gm) (f : Int) : restG g f (-1) = ⟨stF g f, g.deps.tail, buF g f⟩ := rfl
theorem rest_some (g : Gm) (f : Int) {v : Int} (h : 0 ≤ v) : restG g f v = ⟨dec (stF g f) v, g.deps.tail, buF g f⟩ := by
  have e : (restG g f v).starts = dec (stF g f) v := by
    show (if 0 ≤ v then dec (stF g f) v else stF g f) = _
    rw [if_pos h]
  calc restG g f v = ⟨(restG g f v).starts, g.deps.tail, buF g f⟩ := rfl
    _ = _ := by rw [e]
theorem stF_in {g : Gm} (hv : VG g) (f : Int) : InL (stF g f) := by
  unfold stF
  split
  · exact (InL.of hv).zero _
  · exact InL.of hv
theorem stF_len (g : Gm) (f : Int) : (stF g f).length = g.starts.length := by
  unfold stF
  split
  · exact List.length_set
  · rfl
theorem stF_le (g : Gm) (hv : VG g) (f : Int) (i : Nat) : ig (stF g f) i ≤ ig g.starts i := by
  unfold stF
  split
  · rw [ig_set]
    split
    · exact (InL.of hv i).1
    · exact Int.le_refl _
  · exact Int.le_refl _
theorem rest_vg {g : Gm} (hv : VG g) {f c : Int} (hf : okMv g f) (hc : c = -1 ∨ 0 ≤ c ∧ 0 < ig (stF g f) c.toNat) (h1 : 0 < g.deps.length) : VG (restG g f c) ∧ (SmG g → SmG (restG g f c)) := by
  have hin : InL (restG g f c).starts ∧ (restG g f c).starts.length = g.starts.length ∧ ∀ i, ig (restG g f c).starts i ≤ ig g.starts i := by
    rcases hc with rfl | ⟨h0, hc⟩
    · rw [rest_none]
      exact ⟨stF_in hv f, stF_len g f, stF_le g hv f⟩
    · rw [rest_some g f h0]
      refine ⟨fun j => ?_, by rw [dec_len]; exact stF_len g f, fun i => Int.le_trans (ig_dec_le _ _ _) (stF_le g hv f i)⟩
      show 0 ≤ ig (dec (stF g f) c) j ∧ ig (dec (stF g f) c) j ≤ 12
      rw [ig_dec]
      have hh := stF_in hv f
      split
      · have := hh c.toNat; omega
      · exact hh j
  have hb : 0 ≤ (restG g f c).budget ∧ (restG g f c).budget ≤ g.budget := by
    show 0 ≤ buF g f ∧ buF g f ≤ g.budget
    have h3 := hv.2.2.1
    unfold buF
    rcases hf with rfl | hf
    · rw [if_neg (by omega)]; omega
    · rw [if_pos hf.1]; omega
  have hd : (restG g f c).deps = g.deps.tail := rfl
  have hvg : VG (restG g f c) := by
    refine ⟨by rw [hin.2.1]; exact hv.1, by rw [hd, List.length_tail]; have := hv.2.1; omega, hb.1, by have := hv.2.2.2.1; omega, fun i _ => hin.1 i, fun i hi => ?_⟩
    rw [hd, List.length_tail] at hi
    have e : dg (restG g f c) i = dg g (i + 1) := by
      show g.deps.tail.getD i [] = g.deps.getD (i + 1) []
      rw [List.getD_eq_getElem?_getD, List.getD_eq_getElem?_getD, List.getElem?_tail]
    rw [e, hin.2.1]
    exact hv.2.2.2.2.2 (i + 1) (by omega)
  exact ⟨hvg, fun hs => hs.mono hv hvg hin.2.1 (by rw [hd, List.length_tail]; omega) hb.2 hin.2.2⟩
def Vr (g : Gm) (f c : Int) : Int := WG (restG g f c) (beginS (restG g f c))
def stepL (g : Gm) (f : Int) (o v : Int) : Int := if v = f ∨ ig g.starts v.toNat = 0 then o else min o (Vr g f v)
def leastF (g : Gm) (f : Int) (d : List Int) : Int := d.foldl (stepL g f) (Vr g f (-1) + 1)
def mx (g : Gm) (j : Nat) : Int := maxL ((List.range j).map fun q : Nat => leastF g ((q : Int) - 1) (dg g 0))
def endJ (g : Gm) : Nat := if 0 < g.budget then g.starts.length + 1 else 1
theorem mx_succ (g : Gm) (j : Nat) : mx g (j + 1) = max (mx g j) (leastF g ((j : Int) - 1) (dg g 0)) := by
  unfold mx
  rw [List.range_succ, List.map_append, List.map_singleton, maxL_snoc]
theorem leastF_le {g : Gm} {f x : Int} {d : List Int} : leastF g f d ≤ x ↔ Vr g f (-1) + 1 ≤ x ∨ ∃ v ∈ d, ¬ (v = f ∨ ig g.starts v.toNat = 0) ∧ Vr g f v ≤ x := by
  unfold leastF
  suffices hh : ∀ (l : List Int) (o : Int), l.foldl (stepL g f) o ≤ x ↔ o ≤ x ∨ ∃ v ∈ l, ¬ (v = f ∨ ig g.starts v.toNat = 0) ∧ Vr g f v ≤ x from hh _ _
  intro l
  induction l with
  | nil => intro o; simp
  | cons v l ih =>
    intro o
    rw [List.foldl_cons, ih]
    simp only [List.mem_cons, exists_eq_or_imp]
    unfold stepL
    by_cases h : v = f ∨ ig g.starts v.toNat = 0
    · rw [if_pos h]
      constructor
      · rintro (h1 | h1)
        · exact .inl h1
        · exact .inr (.inr h1)
      · rintro (h1 | h1 | h1)
        · exact .inl h1
        · exact absurd h h1.1
        · exact .inr h1
    · rw [if_neg h]
      constructor
      · rintro (h1 | h1)
        · by_cases h2 : o ≤ x
          · exact .inl h2
          · exact .inr (.inl ⟨h, by omega⟩)
        · exact .inr (.inr h1)
      · rintro (h1 | h1 | h1)
        · exact .inl (by omega)
        · exact .inl (by have := h1.2; omega)
        · exact .inr h1
theorem stF_pos {g : Gm} (hv : VG g) {f v : Int} (h0 : 0 ≤ v) (hf : f = -1 ∨ 0 ≤ f ∧ f < g.starts.length) : 0 < ig (stF g f) v.toNat ↔ ¬ (v = f ∨ ig g.starts v.toNat = 0) := by
  have hh := InL.of hv v.toNat
  unfold stF
  rcases hf with rfl | ⟨hf, hf2⟩
  · rw [if_neg (by omega)]; omega
  · rw [if_pos hf, ig_set]
    split
    · omega
    · omega
theorem minimax {g : Gm} (hv : VG g) (h1 : 0 < g.deps.length) : WG g (beginS g) = mx g (endJ g) := by
  have hds : g.deps = dg g 0 :: g.deps.tail := by
    cases h : g.deps with
    | nil => rw [h] at h1; simp at h1
    | cons a l => simp [dg, h]
  have hok := hv.2.2.2.2.2 0 h1
  have key : ∀ x, WG g (beginS g) ≤ x ↔ mx g (endJ g) ≤ x := fun x => by
    rw [val_LeV hv, hds]
    unfold mx
    rw [maxL_le]
    have one : ∀ f, okMv g f → ((LeV g.deps.tail (stF g f) (buF g f) (x - 1) ∨ ∃ v ∈ dg g 0, 0 < ig (stF g f) v.toNat ∧ LeV g.deps.tail (dec (stF g f) v) (buF g f) x) ↔ leastF g f (dg g 0) ≤ x) := fun f hf => by
      have hf' : f = -1 ∨ 0 ≤ f ∧ f < g.starts.length := hf.imp id fun h => ⟨h.1, h.2.1⟩
      rw [leastF_le]
      have e1 : LeV g.deps.tail (stF g f) (buF g f) (x - 1) ↔ Vr g f (-1) + 1 ≤ x := by
        have h := val_LeV (rest_vg hv hf (.inl rfl) h1).1 (x - 1)
        rw [rest_none] at h
        unfold Vr
        rw [rest_none]
        exact ⟨fun h' => by have := h.2 h'; omega, fun h' => h.1 (by omega)⟩
      rw [e1]
      refine or_congr Iff.rfl ⟨?_, ?_⟩
      · rintro ⟨v, hm, hp, hl⟩
        have h0 := (okDep_domG hok hm).1
        refine ⟨v, hm, (stF_pos hv h0 hf').1 hp, ?_⟩
        have h := val_LeV (rest_vg hv hf (.inr ⟨h0, hp⟩) h1).1 x
        rw [rest_some g f h0] at h
        unfold Vr
        rw [rest_some g f h0]
        exact h.2 hl
      · rintro ⟨v, hm, hp, hl⟩
        have h0 := (okDep_domG hok hm).1
        have hp' := (stF_pos hv h0 hf').2 hp
        refine ⟨v, hm, hp', ?_⟩
        have h := val_LeV (rest_vg hv hf (.inr ⟨h0, hp'⟩) h1).1 x
        rw [rest_some g f h0] at h
        unfold Vr at hl
        rw [rest_some g f h0] at hl
        exact h.1 hl
    constructor
    · intro h
      refine ⟨h.nonneg, fun y hy => ?_⟩
      obtain ⟨q, hq, rfl⟩ := List.mem_map.1 hy
      have hq' : q < endJ g := by simpa using hq
      cases q with
      | zero => exact (one (-1) (.inl rfl)).1 (h (g.starts, g.budget) (mem_mvs.2 (.inl rfl)))
      | succ q =>
        have hb : 0 < g.budget ∧ q < g.starts.length := by
          unfold endJ at hq'
          split at hq'
          · rename_i hb; exact ⟨hb, by omega⟩
          · omega
        have e : (((q + 1 : Nat) : Int) - 1) = (q : Int) := by omega
        rw [e]
        refine (one (q : Int) (.inr ⟨by omega, by omega, hb.1⟩)).1 ?_
        have h2 := h (g.starts.set q 0, g.budget - 1) (mem_mvs.2 (.inr ⟨hb.1, q, hb.2, rfl⟩))
        have e1 : stF g (q : Int) = g.starts.set q 0 := by unfold stF; rw [if_pos (by omega)]; rfl
        have e2 : buF g (q : Int) = g.budget - 1 := by unfold buF; rw [if_pos (by omega)]
        rw [e1, e2]
        exact h2
    · rintro ⟨_, h⟩ m hm
      rcases mem_mvs.1 hm with rfl | ⟨hb, i, hi, rfl⟩
      · refine (one (-1) (.inl rfl)).2 ?_
        have := h (leastF g (((0 : Nat) : Int) - 1) (dg g 0)) (List.mem_map.2 ⟨0, by unfold endJ; simp; split <;> omega, rfl⟩)
        exact this
      · have e1 : stF g (i : Int) = g.starts.set i 0 := by unfold stF; rw [if_pos (by omega)]; rfl
        have e2 : buF g (i : Int) = g.budget - 1 := by unfold buF; rw [if_pos (by omega)]
        have h2 := (one (i : Int) (.inr ⟨by omega, by omega, hb⟩)).2 (by
          have := h (leastF g (((i + 1 : Nat) : Int) - 1) (dg g 0)) (List.mem_map.2 ⟨i + 1, by unfold endJ; rw [if_pos hb]; simp; omega, rfl⟩)
          rwa [show (((i + 1 : Nat) : Int) - 1) = (i : Int) by omega] at this)
        rw [e1, e2] at h2
        exact h2
  have a := (key (mx g (endJ g))).2 (Int.le_refl _)
  have b := (key (WG g (beginS g))).1 (Int.le_refl _)
  omega
@[local go_sem high] theorem run_maxM (P : Program) (w : World) (ts : Array TypeId) (t : TypeId) (k k' : IntKind) (x y : Int) : (Builtin.max_ ts t #[.int k x, .int k' y]).run P w = .ok (.int k (max x y)) w := by
  simp [Builtin.max_, Builtin.max2, if_max]
@[local go_sem high] theorem run_minM (P : Program) (w : World) (ts : Array TypeId) (t : TypeId) (k k' : IntKind) (x y : Int) : (Builtin.min_ ts t #[.int k x, .int k' y]).run P w = .ok (.int k (min x y)) w := by
  simp [Builtin.min_, Builtin.min2, if_min]
theorem Vr_in {g : Gm} (hv : VG g) (h1 : 0 < g.deps.length) {f c : Int} (hf : okMv g f) (hc : c = -1 ∨ 0 ≤ c ∧ 0 < ig (stF g f) c.toNat) : 0 ≤ Vr g f c ∧ Vr g f c ≤ 12 := WG_in (rest_vg hv hf hc h1).1 _
set_option maxRecDepth 100000 in
set_option maxHeartbeats 8000000 in
theorem all (g : Gm) (sa da : Option Addr) (sc dc : Nat) (w : World) (hG : GmAt w g sa da) (hF : GmBig g) : Calls Try.prog 4 #[gmV g sa sc da dc] w (RetB (.bool true) w) := by
  have HG := Lib.hid hG
  have HF := Lib.hid hF
  clear hG hF
  go_enter Try.func4, Try.ntmps4
  go_wp2_with fail
  refine calls_named ?_
  intro w0 hw0
  obtain ⟨hbx, _, hx, _⟩ := alloc1 w [.slice sa g.starts.length sc, .slice da g.deps.length dc, .int .i64 g.budget] 25 w0 hw0
  have HX := Lib.hid hx
  have HBX := Lib.hid hbx
  clear hw0 hx hbx
  refine Calls.mono (head_any w0) ?_
  rintro e w1 ⟨rfl, hb1⟩
  have HB1 := Lib.hid (HBX.out.trans (hb1.mono HBX.out.size))
  have hx1 := HX.out.later hb1
  have HX1 := Lib.hid hx1
  have c0 := (hx1 0 _ rfl).1
  have c1 := (hx1 1 _ rfl).1
  have c2 := (hx1 2 _ rfl).1
  clear hb1 hx1
  go_wp2_with fail
  refine Calls.mono (few_any g sa da sc dc w1 (HG.out.later HB1.out) HF.out) ?_
  rintro e w2 ⟨rfl, hb2⟩
  have HB2 := Lib.hid (HB1.out.trans (hb2.mono HB1.out.size))
  have hx2 := HX1.out.later hb2
  have HX2 := Lib.hid hx2
  clear c0 c1 c2
  have c0 := (hx2 0 _ rfl).1
  have c1 := (hx2 1 _ rfl).1
  have c2 := (hx2 2 _ rfl).1
  clear hb2 hx2
  cases hfew : fewB g
  · clear hfew
    go_wp2_with fail
    go_ret
    exact retB rfl HB2.out
  obtain ⟨hv, hsm, h6, h4⟩ := fewB_of hfew
  have HV := Lib.hid hv
  have HSM := Lib.hid hsm
  have H64 := Lib.hid (And.intro h6 h4)
  have HFW := Lib.hid (VG.few hv)
  have HG2 := Lib.hid (HG.out.later HB2.out)
  clear hfew hv hsm h6 h4
  by_cases hd0 : g.deps.length = 0
  · have d0 : ((g.deps.length : Int) == 0) = true := by simp [hd0]
    clear hd0
    go_wp2_with fail
    go_ret
    exact retB rfl HB2.out
  have d0 : ((g.deps.length : Int) == 0) = false := by simpa using hd0
  have h1 : 0 < g.deps.length := by omega
  obtain ⟨db, doff, ra, rc, rfl, hrow, hri⟩ := HG.out.d 0 h1
  rw [Nat.add_zero] at hrow
  have hok := HV.out.2.2.2.2.2 0 h1
  obtain ⟨d, hd⟩ : ∃ d, d = g.deps.getD 0 [] := ⟨_, rfl⟩
  rw [← hd] at hrow hri
  have hdg : dg g 0 = d := hd.symm
  rw [hdg] at hok
  obtain ⟨ll, hll⟩ : ∃ n, n = d.length := ⟨_, rfl⟩
  have hl6 : ll ≤ 6 := by rw [hll]; exact Nat.le_trans (okDep_len hok) HV.out.1
  rw [← hll] at hrow
  obtain ⟨n, hn⟩ : ∃ n, n = g.starts.length := ⟨_, rfl⟩
  obtain ⟨nd, hnd⟩ : ∃ n, n = g.deps.length := ⟨_, rfl⟩
  obtain ⟨bu, hbu⟩ : ∃ n, n = g.budget := ⟨_, rfl⟩
  have hn4 : n ≤ 4 := by rw [hn]; exact H64.out.2
  have hbx2 := HX2.out
  rw [← hn, ← hnd, ← hbu] at hbx2
  have HN := Lib.hid hn
  have HND := Lib.hid hnd
  have HBU := Lib.hid hbu
  have H1 := Lib.hid h1
  have HOK := Lib.hid hok
  have HDG := Lib.hid hdg
  have HLL := Lib.hid hll
  have HROW := Lib.hid hrow
  have HRI := Lib.hid hri
  have HB22 := Lib.hid hbx2
  have HREST := Lib.hid (show ∀ (f c : Int) (wy : World), Below w.heap.size w wy → okMv g f → (c = -1 ∨ 0 ≤ c ∧ 0 < ig (stF g f) c.toNat) → Calls Try.prog 19 #[.agg #[.slice sa n sc, .slice (some ⟨db, doff, none⟩) nd dc, .int .i64 bu], .int .i64 f, .int .i64 c] wy fun e w' => ∃ v, e = .returned v ∧ Below wy.heap.size wy w' ∧ Calls Try.prog 11 #[v] w' (RetB (.tuple #[.int .i64 (Vr g f c), .int .i64 0]) w') from fun f c wy hb hf hc => by
    have hc' : c = -1 ∨ 0 ≤ c ∧ c < g.starts.length := hc.imp id fun h => ⟨h.1, by
      have h2 : c.toNat < (stF g f).length := Nat.lt_of_not_le fun hn => by have := ig_out hn; omega
      rw [stF_len] at h2
      omega⟩
    have hf' : f = -1 ∨ 0 ≤ f ∧ f < g.starts.length := hf.imp id fun h => ⟨h.1, h.2.1⟩
    have h := rest_any g sa (some ⟨db, doff, none⟩) sc dc f c wy (HG.out.later hb) HV.out h1 hf' hc'
    have e : gmV g sa sc (some ⟨db, doff, none⟩) dc = .agg #[.slice sa n sc, .slice (some ⟨db, doff, none⟩) nd dc, .int .i64 bu] := by rw [hn, hnd, hbu]
    rw [e] at h
    refine h.mono ?_
    rintro e' w' ⟨sa', sc', da', dc', rfl, hg', hb'⟩
    obtain ⟨q1, q2⟩ := rest_vg HV.out hf hc h1
    exact ⟨_, rfl, hb', value_ok (restG g f c) sa' da' sc' dc' w' hg' q1 (q2 HSM.out)⟩)
  have HVALG := Lib.hid (show ∀ wy : World, Below w.heap.size w wy → Calls Try.prog 11 #[.agg #[.slice sa n sc, .slice (some ⟨db, doff, none⟩) nd dc, .int .i64 bu]] wy (RetB (.tuple #[.int .i64 (mx g (endJ g)), .int .i64 0]) wy) from fun wy hb => by
    have h := value_ok g sa (some ⟨db, doff, none⟩) sc dc wy (HG.out.later hb) HV.out HSM.out
    rw [minimax HV.out h1] at h
    have e : gmV g sa sc (some ⟨db, doff, none⟩) dc = .agg #[.slice sa n sc, .slice (some ⟨db, doff, none⟩) nd dc, .int .i64 bu] := by rw [hn, hnd, hbu]
    rw [e] at h
    exact h)
  clear hd0 h1 hok hd hdg hll hn hnd hbu hrow hri c0 c1 c2 hbx2
  have c1 := (HB22.out 1 _ rfl).1
  rw [HND.out] at c1
  go_wp2_with fail
  clear d0 c1
  go_loopg [4, 5] (endJ g + 1) (fun gk v4 v5 wr => ∃ j : Nat, j ≤ endJ g ∧ gk + j = endJ g + 1 ∧ v5 = .int .i64 ((j : Int) - 1) ∧ v4 = .int .i64 (mx g j) ∧ Below w.heap.size w wr ∧ BoxAt wr w.heap.size [.slice sa n sc, .slice (some ⟨db, doff, none⟩) nd dc, .int .i64 bu])
  case atStart => exact ⟨0, by omega, by omega, rfl, rfl, HB2.out, HB22.out⟩
  case round =>
    obtain ⟨j, hj, hgj, rfl, rfl, hbr, hbx⟩ := hrel
    obtain ⟨wq, hwq⟩ : ∃ wq, wq = wr := ⟨_, rfl⟩
    subst hwq
    have k0 := (hbx 0 _ rfl).1
    have k1 := (hbx 1 _ rfl).1
    have k2 := (hbx 2 _ rfl).1
    have kr := cell_later hbr HROW.out
    have n0d : (0 : Int) < (nd : Int) := by have := H1.out; have := HND.out; omega
    obtain ⟨most, hmost⟩ : ∃ m, m = mx g j := ⟨_, rfl⟩
    obtain ⟨f, hf⟩ : ∃ f, f = (j : Int) - 1 := ⟨_, rfl⟩
    rw [← hmost, ← hf]
    have HMOST := Lib.hid hmost
    have HFJ := Lib.hid hf
    have HBR := Lib.hid hbr
    have HBXR := Lib.hid hbx
    clear hmost hbr hbx hf
    by_cases hlt : j < endJ g
    · have hmv : okMv g f := by
        unfold endJ at hlt
        have := HN.out
        have := HFJ.out
        unfold okMv
        split at hlt
        · rename_i hb; omega
        · omega
      have HMV := Lib.hid hmv
      have hfn : f < (n : Int) := by rcases hmv with h | h <;> (have := HN.out; omega)
      have HMXS := Lib.hid (show mx g (j + 1) = max most (leastF g f d) from by rw [mx_succ, HMOST.out, ← HFJ.out, HDG.out])
      have hj5 : j ≤ 5 := by
        unfold endJ at hlt
        have := HN.out
        split at hlt <;> omega
      rcases hmv with hf0 | ⟨hf0, _, hf2⟩
      · have hfneg : f < 0 := by omega
        clear hf0
        obtain ⟨vl, hvl⟩ : ∃ x, x = Vr g f (-1) := ⟨_, rfl⟩
        have hvi := Vr_in HV.out H1.out HMV.out (c := -1) (.inl rfl)
        have hcall := HREST.out f (-1) wq HBR.out HMV.out (.inl rfl)
        rw [← hvl] at hvi hcall
        have wv1 : IntKind.i64.wrap (vl + 1) = vl + 1 := IntWalk.i64_in _ (by omega)
        have HVL := Lib.hid hvl
        have HCALL := Lib.hid hcall
        clear hvl hvi hcall
        go_wp2_with fail
        clear k0 k1 k2 kr
        refine Calls.mono HCALL.out ?_
        rintro e w5 ⟨v, rfl, hb5, hval⟩
        have HVAL := Lib.hid hval
        have HB5 := Lib.hid hb5
        clear hval hb5
        go_wp2_with fail
        refine Calls.mono HVAL.out ?_
        rintro e w6 ⟨rfl, hb6⟩
        have hb56 := HB5.out.trans (hb6.mono HB5.out.size)
        have hbw6 := HBR.out.trans (hb56.mono HBR.out.size)
        have hx6 := HBXR.out.later hb56
        have k1 := (hx6 1 _ rfl).1
        have kr := cell_later hbw6 HROW.out
        have HBW6 := Lib.hid hbw6
        have HX6 := Lib.hid hx6
        clear hb6 hb56 hbw6 hx6
        go_wp2_with fail
        clear k1 kr
        go_loopg [8, 9] (ll + 1) (fun gk v8 v9 wr => ∃ k : Nat, k ≤ ll ∧ gk + k = ll + 1 ∧ v9 = .int .i64 k ∧ v8 = .int .i64 ((d.take k).foldl (stepL g f) (vl + 1)) ∧ Below w.heap.size w wr ∧ BoxAt wr w.heap.size [.slice sa n sc, .slice (some ⟨db, doff, none⟩) nd dc, .int .i64 bu])
        case atStart => exact ⟨0, by omega, by omega, rfl, rfl, HBW6.out, HX6.out⟩
        case round =>
          obtain ⟨k, hk, hgk, rfl, rfl, hbz, hxz⟩ := hrel
          obtain ⟨wz, hwz⟩ : ∃ wz, wz = wr := ⟨_, rfl⟩
          subst hwz
          have k0 := (hxz 0 _ rfl).1
          have k1 := (hxz 1 _ rfl).1
          have k2 := (hxz 2 _ rfl).1
          have kr := cell_later hbz HROW.out
          obtain ⟨ls, hls⟩ : ∃ x, x = (d.take k).foldl (stepL g f) (vl + 1) := ⟨_, rfl⟩
          rw [← hls]
          have HLS := Lib.hid hls
          have HBZ := Lib.hid hbz
          have HXZ := Lib.hid hxz
          clear hls hxz
          by_cases hkl : k < ll
          · have hkd : k < d.length := by have := HLL.out; omega
            obtain ⟨ab, ao, rfl, fa⟩ := (HRI.out.later hbz).fam (by omega)
            have ck := fa k hkd
            have hdom := okDep_domG HOK.out (ig_mem hkd)
            obtain ⟨q, hq⟩ : ∃ q : Nat, ig d k = q := ⟨(ig d k).toNat, by omega⟩
            rw [hq] at ck hdom
            have hqn : q < n := by have := HN.out; omega
            have hstep : (d.take (k + 1)).foldl (stepL g f) (vl + 1) = stepL g f ls q := by rw [take_snoc hkd, List.foldl_append, ← ig_lt hkd, hq, ← HLS.out]; rfl
            obtain ⟨sb, so, rfl, fs⟩ := (HG.out.s.later hbz).fam (by have := HN.out; omega)
            have cs := fs q (by have := HN.out; omega)
            obtain ⟨sq, hsq⟩ : ∃ x, x = ig g.starts q := ⟨_, rfl⟩
            rw [← hsq] at cs
            have x1 : (k : Int) < (ll : Int) := by omega
            have x0 : (0 : Int) ≤ (k : Int) := by omega
            have y1 : (q : Int) < (n : Int) := by omega
            have y0 : (0 : Int) ≤ (q : Int) := by omega
            have HSTEP := Lib.hid hstep
            have HSQ := Lib.hid hsq
            clear fa fs hq hdom hstep hsq hkd hqn hbz
            by_cases hqf : (q : Int) = f
            · have HSK := Lib.hid (show stepL g f ls q = ls from if_pos (.inl hqf))
              have e1 : ((q : Int) == f) = true := by simpa using hqf
              clear hqf
              go_wp2_with fail
              go_roundg (ll - k)
              case measure => omega
              case rel => exact ⟨k + 1, by omega, by omega, by go_num, by rw [HSTEP.out, HSK.out], HBZ.out, HXZ.out⟩
            · have e1 : ((q : Int) == f) = false := by simpa using hqf
              by_cases hs0 : sq = 0
              · have HSK := Lib.hid (show stepL g f ls q = ls from if_pos (.inr (by rw [Int.toNat_natCast, ← HSQ.out]; exact hs0)))
                have e2 : (sq == 0) = true := by simpa using hs0
                clear hqf hs0
                go_wp2_with fail
                go_roundg (ll - k)
                case measure => omega
                case rel => exact ⟨k + 1, by omega, by omega, by go_num, by rw [HSTEP.out, HSK.out], HBZ.out, HXZ.out⟩
              · have hno : ¬ ((q : Int) = f ∨ ig g.starts (q : Int).toNat = 0) := by
                  rintro (h | h)
                  · exact hqf h
                  · rw [Int.toNat_natCast, ← HSQ.out] at h
                    exact hs0 h
                have hpos : 0 < ig (stF g f) (q : Int).toNat := (stF_pos HV.out (by omega) (HMV.out.imp id fun h => ⟨h.1, h.2.1⟩)).2 hno
                obtain ⟨vq, hvq⟩ : ∃ x, x = Vr g f q := ⟨_, rfl⟩
                have HSK := Lib.hid (show stepL g f ls q = min ls vq from by rw [hvq]; exact if_neg hno)
                have hcall := HREST.out f q wz HBZ.out HMV.out (.inr ⟨by omega, hpos⟩)
                rw [← hvq] at hcall
                have e2 : (sq == 0) = false := by simpa using hs0
                have HCALL2 := Lib.hid hcall
                clear hqf hs0 hno hpos hvq hcall
                go_wp2_with fail
                clear k0 k1 k2 kr ck cs
                refine Calls.mono HCALL2.out ?_
                rintro e w7 ⟨v7, rfl, hb7, hval7⟩
                have HVAL7 := Lib.hid hval7
                have HB7 := Lib.hid hb7
                clear hval7 hb7
                go_wp2_with fail
                refine Calls.mono HVAL7.out ?_
                rintro e w8 ⟨rfl, hb8⟩
                have hb78 := HB7.out.trans (hb8.mono HB7.out.size)
                have HB8 := Lib.hid (HBZ.out.trans (hb78.mono HBZ.out.size))
                have HX8 := Lib.hid (HXZ.out.later hb78)
                clear hb8 hb78
                go_wp2_with fail
                go_roundg (ll - k)
                case measure => omega
                case rel => exact ⟨k + 1, by omega, by omega, by go_num, by rw [HSTEP.out, HSK.out], HB8.out, HX8.out⟩
          · obtain rfl : ll = k := by omega
            have HLF := Lib.hid (show leastF g f d = ls from by rw [HLS.out, List.take_of_length_le (by have := HLL.out; omega), HVL.out]; rfl)
            have hfi : -1 ≤ f ∧ f < 100 := by have h1 := HFJ.out; omega
            clear k0 k2 hbz
            go_wp2_with fail
            go_roundg (endJ g - j)
            case measure => omega
            case rel => exact ⟨j + 1, by omega, by omega, by rw [HFJ.out]; go_num, by rw [HMXS.out, HLF.out], HBZ.out, HXZ.out⟩
      · have hfneg : ¬ f < 0 := by omega
        have hbu0 : 0 < bu := by rw [HBU.out]; exact hf2
        clear hf0 hf2
        obtain ⟨vl, hvl⟩ : ∃ x, x = Vr g f (-1) := ⟨_, rfl⟩
        have hvi := Vr_in HV.out H1.out HMV.out (c := -1) (.inl rfl)
        have hcall := HREST.out f (-1) wq HBR.out HMV.out (.inl rfl)
        rw [← hvl] at hvi hcall
        have wv1 : IntKind.i64.wrap (vl + 1) = vl + 1 := IntWalk.i64_in _ (by omega)
        have HVL := Lib.hid hvl
        have HCALL := Lib.hid hcall
        clear hvl hvi hcall
        go_wp2_with fail
        clear k0 k1 k2 kr
        refine Calls.mono HCALL.out ?_
        rintro e w5 ⟨v, rfl, hb5, hval⟩
        have HVAL := Lib.hid hval
        have HB5 := Lib.hid hb5
        clear hval hb5
        go_wp2_with fail
        refine Calls.mono HVAL.out ?_
        rintro e w6 ⟨rfl, hb6⟩
        have hb56 := HB5.out.trans (hb6.mono HB5.out.size)
        have hbw6 := HBR.out.trans (hb56.mono HBR.out.size)
        have hx6 := HBXR.out.later hb56
        have k1 := (hx6 1 _ rfl).1
        have kr := cell_later hbw6 HROW.out
        have HBW6 := Lib.hid hbw6
        have HX6 := Lib.hid hx6
        clear hb6 hb56 hbw6 hx6
        go_wp2_with fail
        clear k1 kr
        go_loopg [8, 9] (ll + 1) (fun gk v8 v9 wr => ∃ k : Nat, k ≤ ll ∧ gk + k = ll + 1 ∧ v9 = .int .i64 k ∧ v8 = .int .i64 ((d.take k).foldl (stepL g f) (vl + 1)) ∧ Below w.heap.size w wr ∧ BoxAt wr w.heap.size [.slice sa n sc, .slice (some ⟨db, doff, none⟩) nd dc, .int .i64 bu])
        case atStart => exact ⟨0, by omega, by omega, rfl, rfl, HBW6.out, HX6.out⟩
        case round =>
          obtain ⟨k, hk, hgk, rfl, rfl, hbz, hxz⟩ := hrel
          obtain ⟨wz, hwz⟩ : ∃ wz, wz = wr := ⟨_, rfl⟩
          subst hwz
          have k0 := (hxz 0 _ rfl).1
          have k1 := (hxz 1 _ rfl).1
          have k2 := (hxz 2 _ rfl).1
          have kr := cell_later hbz HROW.out
          obtain ⟨ls, hls⟩ : ∃ x, x = (d.take k).foldl (stepL g f) (vl + 1) := ⟨_, rfl⟩
          rw [← hls]
          have HLS := Lib.hid hls
          have HBZ := Lib.hid hbz
          have HXZ := Lib.hid hxz
          clear hls hxz
          by_cases hkl : k < ll
          · have hkd : k < d.length := by have := HLL.out; omega
            obtain ⟨ab, ao, rfl, fa⟩ := (HRI.out.later hbz).fam (by omega)
            have ck := fa k hkd
            have hdom := okDep_domG HOK.out (ig_mem hkd)
            obtain ⟨q, hq⟩ : ∃ q : Nat, ig d k = q := ⟨(ig d k).toNat, by omega⟩
            rw [hq] at ck hdom
            have hqn : q < n := by have := HN.out; omega
            have hstep : (d.take (k + 1)).foldl (stepL g f) (vl + 1) = stepL g f ls q := by rw [take_snoc hkd, List.foldl_append, ← ig_lt hkd, hq, ← HLS.out]; rfl
            obtain ⟨sb, so, rfl, fs⟩ := (HG.out.s.later hbz).fam (by have := HN.out; omega)
            have cs := fs q (by have := HN.out; omega)
            obtain ⟨sq, hsq⟩ : ∃ x, x = ig g.starts q := ⟨_, rfl⟩
            rw [← hsq] at cs
            have x1 : (k : Int) < (ll : Int) := by omega
            have x0 : (0 : Int) ≤ (k : Int) := by omega
            have y1 : (q : Int) < (n : Int) := by omega
            have y0 : (0 : Int) ≤ (q : Int) := by omega
            have HSTEP := Lib.hid hstep
            have HSQ := Lib.hid hsq
            clear fa fs hq hdom hstep hsq hkd hqn hbz
            by_cases hqf : (q : Int) = f
            · have HSK := Lib.hid (show stepL g f ls q = ls from if_pos (.inl hqf))
              have e1 : ((q : Int) == f) = true := by simpa using hqf
              clear hqf
              go_wp2_with fail
              go_roundg (ll - k)
              case measure => omega
              case rel => exact ⟨k + 1, by omega, by omega, by go_num, by rw [HSTEP.out, HSK.out], HBZ.out, HXZ.out⟩
            · have e1 : ((q : Int) == f) = false := by simpa using hqf
              by_cases hs0 : sq = 0
              · have HSK := Lib.hid (show stepL g f ls q = ls from if_pos (.inr (by rw [Int.toNat_natCast, ← HSQ.out]; exact hs0)))
                have e2 : (sq == 0) = true := by simpa using hs0
                clear hqf hs0
                go_wp2_with fail
                go_roundg (ll - k)
                case measure => omega
                case rel => exact ⟨k + 1, by omega, by omega, by go_num, by rw [HSTEP.out, HSK.out], HBZ.out, HXZ.out⟩
              · have hno : ¬ ((q : Int) = f ∨ ig g.starts (q : Int).toNat = 0) := by
                  rintro (h | h)
                  · exact hqf h
                  · rw [Int.toNat_natCast, ← HSQ.out] at h
                    exact hs0 h
                have hpos : 0 < ig (stF g f) (q : Int).toNat := (stF_pos HV.out (by omega) (HMV.out.imp id fun h => ⟨h.1, h.2.1⟩)).2 hno
                obtain ⟨vq, hvq⟩ : ∃ x, x = Vr g f q := ⟨_, rfl⟩
                have HSK := Lib.hid (show stepL g f ls q = min ls vq from by rw [hvq]; exact if_neg hno)
                have hcall := HREST.out f q wz HBZ.out HMV.out (.inr ⟨by omega, hpos⟩)
                rw [← hvq] at hcall
                have e2 : (sq == 0) = false := by simpa using hs0
                have HCALL2 := Lib.hid hcall
                clear hqf hs0 hno hpos hvq hcall
                go_wp2_with fail
                clear k0 k1 k2 kr ck cs
                refine Calls.mono HCALL2.out ?_
                rintro e w7 ⟨v7, rfl, hb7, hval7⟩
                have HVAL7 := Lib.hid hval7
                have HB7 := Lib.hid hb7
                clear hval7 hb7
                go_wp2_with fail
                refine Calls.mono HVAL7.out ?_
                rintro e w8 ⟨rfl, hb8⟩
                have hb78 := HB7.out.trans (hb8.mono HB7.out.size)
                have HB8 := Lib.hid (HBZ.out.trans (hb78.mono HBZ.out.size))
                have HX8 := Lib.hid (HXZ.out.later hb78)
                clear hb8 hb78
                go_wp2_with fail
                go_roundg (ll - k)
                case measure => omega
                case rel => exact ⟨k + 1, by omega, by omega, by go_num, by rw [HSTEP.out, HSK.out], HB8.out, HX8.out⟩
          · obtain rfl : ll = k := by omega
            have HLF := Lib.hid (show leastF g f d = ls from by rw [HLS.out, List.take_of_length_le (by have := HLL.out; omega), HVL.out]; rfl)
            have hfi : -1 ≤ f ∧ f < 100 := by have h1 := HFJ.out; omega
            clear k0 k2 hbz
            go_wp2_with fail
            go_roundg (endJ g - j)
            case measure => omega
            case rel => exact ⟨j + 1, by omega, by omega, by rw [HFJ.out]; go_num, by rw [HMXS.out, HLF.out], HBZ.out, HXZ.out⟩
    · obtain rfl : j = endJ g := by omega
      have HVG := HVALG
      rw [← HMOST.out] at HVG
      have hfc : ¬ f < (n : Int) ∨ f < (n : Int) ∧ ¬ f < 0 ∧ ¬ 0 < bu := by
        have h1 := HFJ.out
        have h2 := HN.out
        have h3 := HBU.out
        unfold endJ at h1
        split at h1
        · exact .inl (by omega)
        · by_cases hn0 : f < (n : Int)
          · exact .inr ⟨hn0, by omega, by omega⟩
          · exact .inl hn0
      clear hlt kr
      rcases hfc with h1 | ⟨h1, h2, h3⟩
      · go_wp2_with fail
        refine Calls.mono (HVG.out wq HBR.out) ?_
        rintro e w5 ⟨rfl, hb5⟩
        have HB5 := Lib.hid (HBR.out.trans (hb5.mono HBR.out.size))
        clear hb5
        go_wp2_with fail
        go_ret
        exact retB rfl HB5.out
      · go_wp2_with fail
        refine Calls.mono (HVG.out wq HBR.out) ?_
        rintro e w5 ⟨rfl, hb5⟩
        have HB5 := Lib.hid (HBR.out.trans (hb5.mono HBR.out.size))
        clear hb5
        go_wp2_with fail
        go_ret
        exact retB rfl HB5.out
theorem walk (W : World) (g : Gm) (ga : Option Addr) (gc : Nat) (gd : Option Addr) (ge : Nat) (gG : GmAt W g ga gd) (gB : GmBig g) :
    Calls Try.prog 4 #[gmV g ga gc gd ge] W (RetB (.bool true) W) := all g ga gd gc ge W gG gB
end GameMinimax
namespace GameMinimax
set_option maxRecDepth 100000 in
theorem entry (H : Type) (enc : TypeId × Value → H) (W : World) (base : Nat) (args : Array Value) (ds : List (DataW H)) (p : List MemPlace)
    (hval : ∀ (j : Nat) t v, Try.f4.params[j]? = some t → args[j]? = some v → Value.okWide Try.prog W .any base t v)
    (hA : DataW.TrodAll enc Try.prog W 0 (fun _ => true) true Try.f4.params.toList args.toList ds p) :
    Calls Try.prog 4 args W (RetB (.bool true) W) := by
  rw [Try.params4] at hA hval
  obtain ⟨v0, vs0, d0, ds0, p0, q0, hargs, rfl, rfl, h0, r0⟩ := trodAll_cons hA
  obtain ⟨rfl, rfl, rfl⟩ := trodAll_nil r0
  obtain rfl : args = #[v0] := by cases args; simp_all
  obtain ⟨g, ga, gc, gd, ge, rfl, gG, gB⟩ := open_game (hval 0 25 v0 rfl rfl) h0
  exact walk W g ga gc gd ge gG gB
end GameMinimax
/-! The step from the walk to the row of GameMinimax. -/
namespace GameMinimax
set_option maxRecDepth 100000 in
theorem lifted (os : Os) (started : os.Started) (H : Type) (enc : TypeId × Value → H) :
    ReturnsInHanded {} Try.checked os 4 .any (Rows.gameMinimaxSpec.pre6 enc Try.prog Try.f4 Rows.gameMinimaxRow.domain false) (Rows.gameMinimaxSpec.post enc Try.prog Try.f4 false true false false) := by
  refine returnsInHanded_of_change (C := Try.checked) own started (by kernel_rfl) Try.func4
    (ChangeSpec.witness6 (enc := enc) (C := Try.checked) false ⟨#[], #[.agg #[.slice none 0 0, .slice none 0 0, .int .i64 0]], []⟩ 8 (by kernel_rfl) (by kernel_rfl) (by kernel_rfl) (by kernel_rfl)) ?_
  intro W base args ds gs before hval0 hW hcnd _
  have hval : ∀ (j : Nat) t v, Try.f4.params[j]? = some t → args[j]? = some v → Value.okWide Try.prog W .any base t v := hval0
  have hW' := hW
  obtain ⟨p, q, hA0, hV, rfl, hfz, hnd⟩ := hW
  have hA : DataW.TrodAll enc Try.prog W 0 (fun _ => true) true Try.f4.params.toList args.toList ds p := hA0
  obtain ⟨rfl, rfl⟩ := trodVars_none hV
  have hlen := trodAll_len _ _ _ _ hA
  obtain ⟨d0, rfl⟩ : ∃ d0, ds = [d0] := by
    rw [Try.params4] at hlen
    exact list1 hlen
  refine (entry H enc W base args [d0] p hval hA).mono fun e W' ⟨he, bel⟩ => ?_
  subst he
  exact ⟨_, rfl, _, _, _, [], _, [], hW', trodAll_mk1 (shut_bool Try.underlying4 _), readback laidOut _ _ _ _ (by rw [Try.params4]; exact of_decide_eq_true (by kernel_rfl)) hA bel, rfl, bel.frame _, fun h => by cases h⟩

theorem over : Rows.gameMinimaxRow.holds Try.pinned (OpenSpec.ofChange Rows.gameMinimaxSpec) :=
  OpenClaim.holds_of_wide 4 Try.f4 rfl rfl rfl rfl rfl rfl rfl ⟨rfl, rfl, rfl, rfl, rfl⟩ rfl rfl rfl rfl rfl (by kernel_rfl) Try.func4 (by kernel_rfl)
    (of_decide_eq_true (by kernel_rfl)) (by unfold Func.isWrapper; first | (rw [if_pos (by decide +kernel)]; kernel_rfl) | (rw [if_neg (by decide +kernel)]; exact ⟨rfl, rfl⟩))
    (fun os started H enc _ => lifted os started H enc)

/-- THE STATEMENT -/
theorem proved : Rows.GameMinimaxSaid := over
end GameMinimax
#print axioms GameMinimax.proved
end Go.Proofs.Ytlkknoooeldomaa
