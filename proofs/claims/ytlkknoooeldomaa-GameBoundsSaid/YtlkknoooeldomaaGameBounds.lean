



/- For every game: its value is at least the number of the departures that allow no vehicle with starts and at most the number of all; all are lost if no vehicle has a start; without a budget no more are lost than by always taking the first vehicle that may be taken (at most 6 departures and 4 vehicles, else nothing is said). -/
import Derived.Test.YtlkknoooeldomaaGamRc
import Derived.Test.YtlkknoooeldomaaGamV
import Derived.Test.YtlkknoooeldomaaLift
namespace Go.Proofs.Ytlkknoooeldomaa
open Go.ChangeShapes Go.WideShapes Go.ChangeAt Go.RowKit Go.Joins
namespace GameBounds

theorem flatI_set (l : List Int) (q : Nat) (x : Int) : (l.flatMap EI.cf).set q (.int .i64 x) = (l.set q x).flatMap EI.cf := by
  induction l generalizing q with
  | nil => rfl
  | cons a l ih =>
    cases q with
    | zero => rfl
    | succ q =>
      show (Value.int .i64 a :: l.flatMap EI.cf).set (q + 1) _ = Value.int .i64 a :: (l.set q x).flatMap EI.cf
      rw [List.set_cons_succ, ih]
theorem own_set {w : World} {B g n cap : Nat} {l : List Int} (h : EI.Own w B (.slice (some ⟨g, 0, none⟩) n cap) l) (q : Nat) (x : Int) : EI.Own (w.setCell ⟨g, q, none⟩ (.int .i64 x)) B (.slice (some ⟨g, 0, none⟩) n cap) (l.set q x) := by
  obtain ⟨a, c, e, _⟩ := h.at
  cases e
  have h1 := World.ownsRow.stored h q (.int .i64 x)
  have h2 := h1.1
  unfold El.Own
  rw [flatI_set] at h2
  rw [List.length_set]
  exact h2
theorem sumI_take {s : List Int} {i : Nat} (h : i < s.length) : sumI (s.take (i + 1)) = sumI (s.take i) + ig s i := by
  rw [take_snoc h, ← ig_lt h]
  unfold sumI
  rw [List.foldr_append]
  generalize s.take i = l
  induction l with
  | nil => simp
  | cons a l ih => simp only [List.foldr_cons] at ih ⊢; omega
theorem sumI_in {s : List Int} (h : ∀ i, i < s.length → 0 ≤ ig s i ∧ ig s i ≤ 12) : ∀ i, i ≤ s.length → 0 ≤ sumI (s.take i) ∧ sumI (s.take i) ≤ 12 * i
  | 0, _ => by simp [sumI]
  | i + 1, hi => by
    have := sumI_in h i (by omega)
    have h2 := h i (by omega)
    rw [sumI_take (by omega)]
    omega
def freeG (g : Gm) : Gm := { g with budget := 0 }
theorem free_vg {g : Gm} (h : VG g) : VG (freeG g) := ⟨h.1, h.2.1, Int.le_refl _, by show (0 : Int) ≤ 3; omega, h.2.2.2.2.1, h.2.2.2.2.2⟩
theorem free_sm {g : Gm} (h : VG g) (hs : SmG g) : SmG (freeG g) := hs.mono h (free_vg h) rfl (Nat.le_refl _) h.2.2.1 (fun _ => Int.le_refl _)
/-- the first vehicle of a list that may be taken is taken -/
def stepG (L : List Int) (d : List Int) : Bool × List Int := match firstV L d with
  | none => (false, L)
  | some v => (true, dec L v)
theorem stepG_nil (L : List Int) : stepG L [] = (false, L) := rfl
theorem stepG_snoc (L d : List Int) (q : Int) : stepG L (d ++ [q]) = if (stepG L d).1 = false ∧ 0 < ig (stepG L d).2 q.toNat then (true, dec (stepG L d).2 q) else stepG L d := by
  unfold stepG firstV
  rw [List.find?_append]
  cases h : d.find? (fun v => decide (0 < ig L v.toNat)) with
  | some v => simp
  | none =>
    by_cases hq : 0 < ig L q.toNat
    · simp [hq]
    · simp [hq]
theorem noneD_snoc (s d : List Int) (q : Int) : (!noneD s (d ++ [q])) = (!noneD s d || decide (0 < ig s q.toNat)) := by
  unfold noneD
  rw [List.all_append]
  by_cases h : 0 < ig s q.toNat
  · simp [h]
  · have : ig s q.toNat ≤ 0 := by omega
    simp [h, this]
theorem noneD_snocN (s d : List Int) (q : Nat) : (!noneD s (d ++ [(q : Int)])) = (!noneD s d || decide (0 < ig s q)) := noneD_snoc s d q
theorem stepG_snocN (L d : List Int) (q : Nat) : stepG L (d ++ [(q : Int)]) = if (stepG L d).1 = false ∧ 0 < ig (stepG L d).2 q then (true, dec (stepG L d).2 q) else stepG L d := stepG_snoc L d q
theorem greedy_step (d : List Int) (ds : List (List Int)) (L : List Int) : greedyL (d :: ds) L = (if (stepG L d).1 then 0 else 1) + greedyL ds (stepG L d).2 := by
  show (match firstV L d with | some v => _ | none => _) = _
  unfold stepG
  cases h : firstV L d <;> simp
theorem cntN_step (s d : List Int) (ds : List (List Int)) : (cntN s (d :: ds) : Int) = (if !noneD s d then 0 else 1) + cntN s ds := by
  unfold cntN
  rw [List.countP_cons]
  cases h : noneD s d <;> simp <;> omega
def InL (L : List Int) : Prop := ∀ j, 0 ≤ ig L j ∧ ig L j ≤ 12
theorem InL.dec {L : List Int} (h : InL L) {v : Int} (hv : 0 < ig L v.toNat) : InL (dec L v) := fun j => by
  rw [ig_dec]
  split
  · have := h v.toNat; omega
  · exact h j
/-- what the statement says -/
structure Facts (g : Gm) (n m : Int) : Prop where
  a : (cntN g.starts g.deps : Int) ≤ n
  b : n ≤ g.deps.length
  c : 0 < sumI g.starts ∨ n = g.deps.length
  d : m ≤ greedyL g.deps g.starts
  e : m ≤ n
  f : (g.deps.length : Int) - sumI g.starts ≤ n
  i : 0 ≤ n ∧ n ≤ 12
theorem facts {g : Gm} (h : VG g) : Facts g (WG g (beginS g)) (WG (freeG g) (beginS (freeG g))) := by
  have hn := (val_LeV h (WG g (beginS g))).1 (Int.le_refl _)
  have hpos : ∀ i, 0 ≤ ig g.starts i := fun i => by
    by_cases hi : i < g.starts.length
    · exact (h.2.2.2.2.1 i hi).1
    · rw [ig_out (by omega)]; exact Int.le_refl _
  have hs := hn.sum hpos
  have h0 := sum_nonneg hpos
  have hb : WG g (beginS g) ≤ g.deps.length := (val_LeV h _).2 (LeV.all _ _ _)
  refine ⟨hn.least, hb, ?_, (val_LeV (free_vg h) _).2 (LeV.greedy _ _), (val_LeV (free_vg h) _).2 (hn.lessB h.2.2.1), hs, WG_in h _⟩
  omega
set_option maxRecDepth 100000 in
set_option maxHeartbeats 8000000 in
theorem all (g : Gm) (sa da : Option Addr) (sc dc : Nat) (w : World) (hG : GmAt w g sa da) (hF : GmBig g) : Calls Try.prog 6 #[gmV g sa sc da dc] w (RetB (.bool true) w) := by
  have HG := Lib.hid hG
  have HF := Lib.hid hF
  clear hG hF
  go_enter Try.func6, Try.ntmps6
  go_wp2_with fail
  refine calls_named ?_
  intro w0 hw0
  obtain ⟨hbx, _, hx, _⟩ := alloc1 w [.slice sa g.starts.length sc, .slice da g.deps.length dc, .int .i64 g.budget] 25 w0 hw0
  have HX := Lib.hid hx
  have HBX := Lib.hid hbx
  clear hw0 hx hbx
  refine Calls.mono (head_any w0) ?_
  rintro e w1 ⟨rfl, hb1⟩
  have HB1 := Lib.hid (HBX.out.trans (hb1.mono HBX.out.size))
  have hx1 := HX.out.later hb1
  have HX1 := Lib.hid hx1
  have c0 := (hx1 0 _ rfl).1
  have c1 := (hx1 1 _ rfl).1
  have c2 := (hx1 2 _ rfl).1
  clear hb1 hx1
  go_wp2_with fail
  refine Calls.mono (few_any g sa da sc dc w1 (HG.out.later HB1.out) HF.out) ?_
  rintro e w2 ⟨rfl, hb2⟩
  have HB2 := Lib.hid (HB1.out.trans (hb2.mono HB1.out.size))
  have hx2 := HX1.out.later hb2
  have HX2 := Lib.hid hx2
  clear c0 c1 c2
  have c0 := (hx2 0 _ rfl).1
  have c1 := (hx2 1 _ rfl).1
  have c2 := (hx2 2 _ rfl).1
  clear hb2 hx2
  cases hfew : fewB g
  · clear hfew
    go_wp2_with fail
    go_ret
    exact retB rfl HB2.out
  obtain ⟨hv, hsm, h6, h4⟩ := fewB_of hfew
  have HV := Lib.hid hv
  have HSM := Lib.hid hsm
  have H64 := Lib.hid (And.intro h6 h4)
  have HFW := Lib.hid (VG.few hv)
  have HG2 := Lib.hid (HG.out.later HB2.out)
  clear hfew hv hsm h6 h4
  have HVA := Lib.hid (value_ok g sa da sc dc w2 HG2.out HV.out HSM.out)
  obtain ⟨nv, hnv⟩ : ∃ n, n = WG g (beginS g) := ⟨_, rfl⟩
  rw [← hnv] at HVA
  obtain ⟨mv, hmv⟩ : ∃ n, n = WG (freeG g) (beginS (freeG g)) := ⟨_, rfl⟩
  have HFA := Lib.hid (show Facts g nv mv from by rw [hnv, hmv]; exact facts HV.out)
  have HMV := Lib.hid hmv
  clear hnv hmv
  go_wp2_with fail
  refine Calls.mono HVA.out ?_
  rintro e w3 ⟨rfl, hb3⟩
  have HB3 := Lib.hid (HB2.out.trans (hb3.mono HB2.out.size))
  have hx3 := HX2.out.later hb3
  have HX3 := Lib.hid hx3
  have HG3 := Lib.hid (HG2.out.later hb3)
  clear c0 c1 c2
  have c0 := (hx3 0 _ rfl).1
  obtain ⟨n, hn⟩ : ∃ n, n = g.starts.length := ⟨_, rfl⟩
  have hn4 : n ≤ 4 := by rw [hn]; exact H64.out.2
  rw [← hn] at c0
  have HN := Lib.hid hn
  clear hb3 hx3 hn
  go_wp2_with fail
  go_loopg [7, 8] (n + 1) (fun gk v7 v8 wr => ∃ i : Nat, i ≤ n ∧ gk + i = n + 1 ∧ v8 = .int .i64 i ∧ v7 = .int .i64 (sumI (g.starts.take i)) ∧ w3 = wr)
  case atStart => exact ⟨0, by omega, by omega, rfl, rfl, rfl⟩
  case round =>
    obtain ⟨i, hi, hgi, rfl, rfl, rfl⟩ := hrel
    have hsi := sumI_in HV.out.2.2.2.2.1 i (by have := HN.out; omega)
    obtain ⟨y, hy⟩ : ∃ y, y = sumI (g.starts.take i) := ⟨_, rfl⟩
    rw [← hy] at hsi ⊢
    have HY := Lib.hid hy
    clear hy
    by_cases hlt : i < n
    · obtain ⟨pb, po, rfl, fp⟩ := HG3.out.s.fam (by have := HN.out; omega)
      have hc := fp i (by have := HN.out; omega)
      have hs := HV.out.2.2.2.2.1 i (by rw [← HN.out]; exact hlt)
      obtain ⟨v, hv⟩ : ∃ v, v = ig g.starts i := ⟨_, rfl⟩
      rw [← hv] at hc hs
      have HNX := Lib.hid (show sumI (g.starts.take (i + 1)) = y + v from by rw [HY.out, hv]; exact sumI_take (by have := HN.out; omega))
      have w3' : IntKind.i64.wrap (y + v) = y + v := IntWalk.i64_in _ (by omega)
      have z1 : (i : Int) < (n : Int) := by omega
      have z0 : (0 : Int) ≤ (i : Int) := by omega
      clear fp hv hs hsi
      go_wp2_with fail
      go_roundg (n - i)
      case measure => omega
      case rel => exact ⟨i + 1, by omega, by omega, by go_num, by rw [HNX.out], rfl⟩
    · obtain rfl : n = i := by omega
      have HSUM := Lib.hid (show y = sumI g.starts from by rw [HY.out, HN.out, List.take_length])
      have hnil := El.Own.lit (E := EI) w3 w3.heap.size (Nat.le_refl _) [] (by simp) #[] rfl
      have hEm : Below w3.heap.size w3 (w3.alloc (.cells #[] 3)) := (Below.refl _ _).alloc (Nat.le_refl _) _
      obtain ⟨lv, w5, hr, ho, hg, hnn⟩ := El.app (E := EI) _ w3.heap.size _ [] g.starts hnil sa sc ((Ints.el HG3.out.s).later hEm) (by simp; have := HV.out.1; omega) (by simp) 22
      rw [← HN.out] at hr
      have ho' : EI.Own w5 w3.heap.size lv g.starts := by simpa using ho
      have hb5 : Below w3.heap.size w3 w5 := hEm.grown hg hEm.size (fun b hb => (hnil.lt b hb).1)
      have HR := Lib.hid hr
      have HO5 := Lib.hid ho'
      have HB5 := Lib.hid hb5
      have hx5 := HX3.out.later hb5
      have HX5 := Lib.hid hx5
      have lx := HX3.out.lt
      clear hsi hnil hEm hr ho hg hnn ho' hb5 hx5
      go_upto_region 11 with (at_builtin; go_loud (refine wpList_app_eq rfl _ _ _ rfl _ _ rfl rfl HR.out ?_))
      obtain ⟨nd, hnd⟩ : ∃ n, n = g.deps.length := ⟨_, rfl⟩
      have hnd6 : nd ≤ 6 := by rw [hnd]; exact H64.out.1
      have HND := Lib.hid hnd
      have k1 := (HX5.out 1 _ rfl).1
      have k0 := (HX5.out 0 _ rfl).1
      rw [← hnd] at k1
      rw [← HN.out] at k0
      have hin0 : InL g.starts := fun j => by
        by_cases hj : j < g.starts.length
        · exact HV.out.2.2.2.2.1 j hj
        · rw [ig_out (by omega)]; omega
      have HIN0 := Lib.hid hin0
      have HLW := Lib.hid (show w.heap.size < w3.heap.size from lx)
      clear hnd hin0 c0 lx
      have HK0 := Lib.hid k0
      have HK1 := Lib.hid k1
      clear k0 k1
      go_wp2_with fail
      go_loopg [6, 10, 11] (nd + 1) (fun gk v6 v10 v11 wq => ∃ (i : Nat) (L : List Int) (le fi : Int), i ≤ nd ∧ gk + i = nd + 1 ∧ v11 = .int .i64 i ∧ v6 = .int .i64 le ∧ v10 = .int .i64 fi ∧ (0 ≤ le ∧ le ≤ i ∧ 0 ≤ fi ∧ fi ≤ i) ∧
        EI.Own wq w3.heap.size lv L ∧ L.length = n ∧ InL L ∧ le + cntN g.starts (g.deps.drop i) = cntN g.starts g.deps ∧ fi + greedyL (g.deps.drop i) L = greedyL g.deps g.starts ∧ Chg (fun k => lv.ownBlock = some k) w5 wq)
      case atStart => exact ⟨0, g.starts, 0, 0, by omega, by omega, rfl, rfl, rfl, by omega, HO5.out, HN.out.symm, HIN0.out, by simp, by simp, Chg.refl _ _⟩
      case round =>
        obtain ⟨i, L, le, fi, hi, hgi, rfl, rfl, rfl, hbd, hown, hL, hin, hle, hfi, hch⟩ := hrel
        obtain ⟨wq, hwq⟩ : ∃ wq, wq = wr := ⟨_, rfl⟩
        subst hwq
        have hne : ∀ k, lv.ownBlock = some k → w3.heap.size ≤ k := fun k hk => (HO5.out.lt k hk).1
        have hbw : Below w.heap.size w wq := (HB3.out.trans (HB5.out.mono HB3.out.size)).trans (hch.below (Nat.le_trans HB3.out.size HB5.out.size) fun k hk => Nat.le_trans HB3.out.size (hne k hk))
        have k0 := hch.cell HK0.out (fun hk => by have h1 : w3.heap.size ≤ w.heap.size := hne _ hk; have := HLW.out; omega)
        have k1 := hch.cell HK1.out (fun hk => by have h1 : w3.heap.size ≤ w.heap.size := hne _ hk; have := HLW.out; omega)
        have HBW := Lib.hid hbw
        have HOW := Lib.hid hown
        have HLL := Lib.hid hL
        have HIN := Lib.hid hin
        have HLE := Lib.hid hle
        have HFI := Lib.hid hfi
        have HCH := Lib.hid hch
        clear hbw hown hL hin hle hfi hch hne
        by_cases hlt : i < nd
        · have hid : i < g.deps.length := by have := HND.out; omega
          obtain ⟨db, doff, ra, rc, rfl, hrow, hI⟩ := HG.out.d i hid
          obtain ⟨d, hd⟩ : ∃ d, d = g.deps.getD i [] := ⟨_, rfl⟩
          rw [← hd] at hrow hI
          have hdrop : g.deps.drop i = d :: g.deps.drop (i + 1) := by rw [hd, List.getD_eq_getElem?_getD, List.getElem?_eq_getElem hid]; exact List.drop_eq_getElem_cons hid
          have hok : okDep g.starts.length d := by rw [hd]; exact HV.out.2.2.2.2.2 i hid
          obtain ⟨ll, hll⟩ : ∃ n, n = d.length := ⟨_, rfl⟩
          have hl6 : ll ≤ 6 := by rw [hll]; exact Nat.le_trans (okDep_len hok) HV.out.1
          rw [← hll] at hrow
          have HROW := Lib.hid hrow
          have HRI := Lib.hid hI
          have HOK := Lib.hid hok
          have HDR := Lib.hid hdrop
          have HDL := Lib.hid hll
          have m1 : (i : Int) < (nd : Int) := by omega
          have m0 : (0 : Int) ≤ (i : Int) := by omega
          have HKA := Lib.hid k0
          have HKB := Lib.hid k1
          clear hd hdrop hok hll hI k0 hrow
          go_wp2_with fail
          clear k1
          go_loopg [12, 13, 14] (ll + 1) (fun gk v12 v13 v14 wz => ∃ (k : Nat), k ≤ ll ∧ gk + k = ll + 1 ∧ v14 = .int .i64 k ∧ v12 = .bool (!noneD g.starts (d.take k)) ∧ v13 = .bool (stepG L (d.take k)).1 ∧
            EI.Own wz w3.heap.size lv (stepG L (d.take k)).2 ∧ (stepG L (d.take k)).2.length = n ∧ InL (stepG L (d.take k)).2 ∧ Chg (fun k => lv.ownBlock = some k) wq wz)
          case atStart => exact ⟨0, by omega, by omega, rfl, rfl, rfl, HOW.out, HLL.out, HIN.out, Chg.refl _ _⟩
          case round =>
            obtain ⟨k, hk, hgk, rfl, rfl, rfl, hown, hL, hin, hch⟩ := hrel
            obtain ⟨wz, hwz⟩ : ∃ wz, wz = wr := ⟨_, rfl⟩
            subst hwz
            have hne : ∀ k, lv.ownBlock = some k → w3.heap.size ≤ k := fun k hk => (HO5.out.lt k hk).1
            have hc5 : Chg (fun k => lv.ownBlock = some k) w5 wz := HCH.out.trans hch
            have hbz : Below w.heap.size w wz := (HB3.out.trans (HB5.out.mono HB3.out.size)).trans (hc5.below (Nat.le_trans HB3.out.size HB5.out.size) fun k hk => Nat.le_trans HB3.out.size (hne k hk))
            have k0 := hc5.cell HK0.out (fun hk => by have h1 : w3.heap.size ≤ w.heap.size := hne _ hk; have := HLW.out; omega)
            have k1 := hc5.cell HK1.out (fun hk => by have h1 : w3.heap.size ≤ w.heap.size := hne _ hk; have := HLW.out; omega)
            have kr := cell_later hbz HROW.out
            have HCZ := Lib.hid hch
            have HBZ := Lib.hid hbz
            by_cases hkl : k < ll
            · obtain ⟨ab, ao, rfl, fa⟩ := (HRI.out.later hbz).fam (by have := HDL.out; omega)
              have hkd : k < d.length := by have := HDL.out; omega
              have ck := fa k hkd
              have hdom := okDep_domG HOK.out (ig_mem hkd)
              obtain ⟨q, hq⟩ : ∃ q : Nat, ig d k = q := ⟨(ig d k).toNat, by omega⟩
              rw [hq] at ck hdom
              have hqn : q < n := by have := HN.out; omega
              have htk : d.take (k + 1) = d.take k ++ [(q : Int)] := by rw [take_snoc hkd, ← ig_lt hkd, hq]
              obtain ⟨sb, so, rfl, fs⟩ := (HG.out.s.later hbz).fam (by have := HN.out; omega)
              have cs := fs q (by have := HN.out; omega)
              obtain ⟨T, hT⟩ : ∃ T, T = stepG L (d.take k) := ⟨_, rfl⟩
              obtain ⟨tk, L'⟩ := T
              rw [← hT] at hown hL hin
              have hsn := stepG_snocN L (d.take k) q
              have hnn := noneD_snocN g.starts (d.take k) q
              rw [← htk, ← hT] at hsn
              rw [← htk] at hnn
              dsimp only at hsn hown hL hin
              obtain ⟨la, lc, hlv, _, _, hat, hcase⟩ := hown.at
              have hlb : ∃ gb, la = some ⟨gb, 0, none⟩ := by
                rcases hcase with ⟨_, _, e⟩ | ⟨gb, e, _⟩
                · rw [e] at hL; simp at hL; omega
                · exact ⟨gb, e⟩
              obtain ⟨gb, rfl⟩ := hlb
              rw [hL] at hlv
              subst hlv
              have hgb : w3.heap.size ≤ gb := hne gb rfl
              have hgl : gb < wz.heap.size := (hown.lt gb rfl).2
              obtain ⟨_, _, e2, cl⟩ := hat.ints q (by rw [hL]; exact hqn)
              cases e2
              rw [Nat.zero_add] at cl
              have clf : wz.frozen? ⟨gb, q, none⟩ = false := by
                obtain ⟨cur, hcur⟩ := hown.ty (g := gb) rfl
                simp [World.frozen?, hcur]
              have hinq := hin q
              obtain ⟨sq, hsq⟩ : ∃ x, x = ig g.starts q := ⟨_, rfl⟩
              obtain ⟨lq, hlq⟩ : ∃ x, x = ig L' q := ⟨_, rfl⟩
              rw [← hsq] at cs hnn
              rw [← hlq] at cl hsn hinq
              obtain ⟨an, han⟩ : ∃ x, x = !noneD g.starts (d.take k) := ⟨_, rfl⟩
              have hst : (stepG L (d.take k)).1 = tk := by rw [← hT]
              rw [← han] at hnn ⊢
              rw [hst]
              have x1 : (k : Int) < (ll : Int) := by omega
              have x0 : (0 : Int) ≤ (k : Int) := by omega
              have y1 : (q : Int) < (n : Int) := by omega
              have y0 : (0 : Int) ≤ (q : Int) := by omega
              have wr1 : IntKind.i64.wrap (lq - 1) = lq - 1 := IntWalk.i64_in _ (by omega)
              have HSN := Lib.hid hsn
              have HNN := Lib.hid hnn
              have HOWN := Lib.hid hown
              have HLN := Lib.hid hL
              have HINL := Lib.hid hin
              have HLQ := Lib.hid hlq
              have HGB := Lib.hid (And.intro hgb hgl)
              have HKD := Lib.hid hkd
              clear fa fs hq hdom htk hT hsn hnn hown hL hin hat hcase hgb hgl hinq hsq hlq han hst hc5 hch hbz hqn hkd hne
              by_cases h2 : 0 < lq
              · cases tk
                · have HST := Lib.hid (show stepG L (d.take (k + 1)) = (true, dec L' q) from HSN.out.trans (if_pos ⟨rfl, h2⟩))
                  have HDC := Lib.hid (show dec L' q = L'.set q (lq - 1) from by unfold dec; rw [Int.toNat_natCast, HLQ.out])
                  have HI2 := Lib.hid (show InL (dec L' q) from HINL.out.dec (by rw [Int.toNat_natCast, ← HLQ.out]; exact h2))
                  rcases Bool.eq_false_or_eq_true an with h3 | h3
                  · subst h3
                    go_wp2_with fail
                    go_roundg (ll - k)
                    case measure => omega
                    case rel => exact ⟨k + 1, by omega, by omega, by go_num, by rw [HNN.out]; simp [*], by rw [HST.out], by rw [HST.out, HDC.out]; exact own_set HOWN.out q _, by rw [HST.out, dec_len]; exact HLN.out, by rw [HST.out]; exact HI2.out, HCZ.out.setCell (p := ⟨gb, q, none⟩) (fun _ => rfl) _⟩
                  · subst h3
                    by_cases h1 : 0 < sq
                    · go_wp2_with fail
                      go_roundg (ll - k)
                      case measure => omega
                      case rel => exact ⟨k + 1, by omega, by omega, by go_num, by rw [HNN.out]; simp [*], by rw [HST.out], by rw [HST.out, HDC.out]; exact own_set HOWN.out q _, by rw [HST.out, dec_len]; exact HLN.out, by rw [HST.out]; exact HI2.out, HCZ.out.setCell (p := ⟨gb, q, none⟩) (fun _ => rfl) _⟩
                    · go_wp2_with fail
                      go_roundg (ll - k)
                      case measure => omega
                      case rel => exact ⟨k + 1, by omega, by omega, by go_num, by rw [HNN.out]; simp [*], by rw [HST.out], by rw [HST.out, HDC.out]; exact own_set HOWN.out q _, by rw [HST.out, dec_len]; exact HLN.out, by rw [HST.out]; exact HI2.out, HCZ.out.setCell (p := ⟨gb, q, none⟩) (fun _ => rfl) _⟩
                · have HST := Lib.hid (show stepG L (d.take (k + 1)) = (true, L') from HSN.out.trans (if_neg (fun h => by cases h.1)))
                  rcases Bool.eq_false_or_eq_true an with h3 | h3
                  · subst h3
                    go_wp2_with fail
                    go_roundg (ll - k)
                    case measure => omega
                    case rel => exact ⟨k + 1, by omega, by omega, by go_num, by rw [HNN.out]; simp [*], by rw [HST.out], by rw [HST.out]; exact HOWN.out, by rw [HST.out]; exact HLN.out, by rw [HST.out]; exact HINL.out, HCZ.out⟩
                  · subst h3
                    by_cases h1 : 0 < sq
                    · go_wp2_with fail
                      go_roundg (ll - k)
                      case measure => omega
                      case rel => exact ⟨k + 1, by omega, by omega, by go_num, by rw [HNN.out]; simp [*], by rw [HST.out], by rw [HST.out]; exact HOWN.out, by rw [HST.out]; exact HLN.out, by rw [HST.out]; exact HINL.out, HCZ.out⟩
                    · go_wp2_with fail
                      go_roundg (ll - k)
                      case measure => omega
                      case rel => exact ⟨k + 1, by omega, by omega, by go_num, by rw [HNN.out]; simp [*], by rw [HST.out], by rw [HST.out]; exact HOWN.out, by rw [HST.out]; exact HLN.out, by rw [HST.out]; exact HINL.out, HCZ.out⟩
              · have HST := Lib.hid (show stepG L (d.take (k + 1)) = (tk, L') from HSN.out.trans (if_neg (fun h => h2 h.2)))
                rcases Bool.eq_false_or_eq_true an with h3 | h3
                · subst h3
                  go_wp2_with fail
                  go_roundg (ll - k)
                  case measure => omega
                  case rel => exact ⟨k + 1, by omega, by omega, by go_num, by rw [HNN.out]; simp [*], by rw [HST.out], by rw [HST.out]; exact HOWN.out, by rw [HST.out]; exact HLN.out, by rw [HST.out]; exact HINL.out, HCZ.out⟩
                · subst h3
                  by_cases h1 : 0 < sq
                  · go_wp2_with fail
                    go_roundg (ll - k)
                    case measure => omega
                    case rel => exact ⟨k + 1, by omega, by omega, by go_num, by rw [HNN.out]; simp [*], by rw [HST.out], by rw [HST.out]; exact HOWN.out, by rw [HST.out]; exact HLN.out, by rw [HST.out]; exact HINL.out, HCZ.out⟩
                  · go_wp2_with fail
                    go_roundg (ll - k)
                    case measure => omega
                    case rel => exact ⟨k + 1, by omega, by omega, by go_num, by rw [HNN.out]; simp [*], by rw [HST.out], by rw [HST.out]; exact HOWN.out, by rw [HST.out]; exact HLN.out, by rw [HST.out]; exact HINL.out, HCZ.out⟩
            · obtain rfl : k = ll := by omega
              have htk : d.take k = d := List.take_of_length_le (by have := HDL.out; omega)
              rw [htk] at hown hL hin ⊢
              obtain ⟨tk, htk'⟩ : ∃ x, x = (stepG L d).1 := ⟨_, rfl⟩
              obtain ⟨an, han⟩ : ∃ x, x = !noneD g.starts d := ⟨_, rfl⟩
              rw [← htk', ← han]
              have hgr := greedy_step d (g.deps.drop (i + 1)) L
              have hcn := cntN_step g.starts d (g.deps.drop (i + 1))
              rw [← HDR.out, ← htk'] at hgr
              rw [← HDR.out, ← han] at hcn
              have h1 := HLE.out
              have h2 := HFI.out
              rw [hcn] at h1
              rw [hgr] at h2
              have HL1 := Lib.hid h1
              have HL2 := Lib.hid h2
              have HOWN := Lib.hid hown
              have HLN := Lib.hid hL
              have HINL := Lib.hid hin
              have wle : IntKind.i64.wrap (le + 1) = le + 1 := IntWalk.i64_in _ (by omega)
              have wfi : IntKind.i64.wrap (fi + 1) = fi + 1 := IntWalk.i64_in _ (by omega)
              have HC5 := Lib.hid hc5
              have HBD := Lib.hid hbd
              clear hown hL hin hgr hcn h1 h2 htk htk' han hch hbz hc5 hne
              cases an
              · cases tk
                · go_wp2_with fail
                  go_roundg (nd - i)
                  case measure => omega
                  case rel => exact ⟨i + 1, _, le + 1, fi + 1, by omega, by omega, by go_num, rfl, rfl, by have := HBD.out; omega, HOWN.out, HLN.out, HINL.out, by have h := HL1.out; simp at h; omega, by have h := HL2.out; simp at h; omega, HC5.out⟩
                · go_wp2_with fail
                  go_roundg (nd - i)
                  case measure => omega
                  case rel => exact ⟨i + 1, _, le + 1, fi, by omega, by omega, by go_num, rfl, rfl, by have := HBD.out; omega, HOWN.out, HLN.out, HINL.out, by have h := HL1.out; simp at h; omega, by have h := HL2.out; simp at h; omega, HC5.out⟩
              · cases tk
                · go_wp2_with fail
                  go_roundg (nd - i)
                  case measure => omega
                  case rel => exact ⟨i + 1, _, le, fi + 1, by omega, by omega, by go_num, rfl, rfl, by have := HBD.out; omega, HOWN.out, HLN.out, HINL.out, by have h := HL1.out; simp at h; omega, by have h := HL2.out; simp at h; omega, HC5.out⟩
                · go_wp2_with fail
                  go_roundg (nd - i)
                  case measure => omega
                  case rel => exact ⟨i + 1, _, le, fi, by omega, by omega, by go_num, rfl, rfl, by have := HBD.out; omega, HOWN.out, HLN.out, HINL.out, by have h := HL1.out; simp at h; omega, by have h := HL2.out; simp at h; omega, HC5.out⟩
        · obtain rfl : i = nd := by omega
          have hnil : g.deps.drop i = [] := List.drop_eq_nil_of_le (by have := HND.out; omega)
          have h1 := HLE.out
          have h2 := HFI.out
          rw [hnil] at h1 h2
          have e1 : le = cntN g.starts g.deps := by have h3 : (cntN g.starts [] : Int) = 0 := rfl; omega
          have e2 : fi = greedyL g.deps g.starts := by have h3 : greedyL [] L = 0 := rfl; omega
          have HFX := Lib.hid (show le ≤ nv ∧ nv ≤ i ∧ (0 < y ∨ nv = i) ∧ mv ≤ fi ∧ mv ≤ nv ∧ (i : Int) - y ≤ nv from by
            have h := HFA.out
            rw [e1, e2, HSUM.out, HND.out]
            exact ⟨h.a, h.b, h.c, h.d, h.e, h.f⟩)
          have hne : ∀ k, lv.ownBlock = some k → w3.heap.size ≤ k := fun k hk => (HO5.out.lt k hk).1
          have k2 := HCH.out.cell (HX5.out 2 _ rfl).1 (fun hk => by have h1 : w3.heap.size ≤ w.heap.size := hne _ hk; have := HLW.out; omega)
          have HVB := Lib.hid (show ∀ wy : World, Below w.heap.size w wy → Calls Try.prog 11 #[.agg #[.slice sa n sc, .slice da i dc, .int .i64 0]] wy (RetB (.tuple #[.int .i64 mv, .int .i64 0]) wy) from fun wy hb => by
            have h := value_ok (freeG g) sa da sc dc wy ⟨(HG.out.later hb).s, (HG.out.later hb).d⟩ (free_vg HV.out) (free_sm HV.out HSM.out)
            rw [← HMV.out] at h
            have e3 : gmV (freeG g) sa sc da dc = .agg #[.slice sa n sc, .slice da i dc, .int .i64 0] := by rw [HN.out, HND.out]; rfl
            rw [e3] at h
            exact h)
          have lw : w.heap.size < wq.heap.size := World.block_lt_of_cell? _ _ k0
          have hmvi := WG_in (free_vg HV.out) (beginS (freeG g))
          rw [← HMV.out] at hmvi
          have hyb : 0 ≤ y ∧ y ≤ 48 := by
            have h := sumI_in HV.out.2.2.2.2.1 n (by have := HN.out; omega)
            rw [HN.out, List.take_length, ← HSUM.out, ← HN.out] at h
            omega
          have wsub : IntKind.i64.wrap ((i : Int) - y) = (i : Int) - y := IntWalk.i64_in _ (by omega)
          clear hnil h1 h2 e1 e2 hne hbd
          go_wp2_with fail
          refine calls_named ?_
          intro w6 hw6
          have hb6 : Below wq.heap.size wq w6 := by rw [hw6]; exact (by repeat (first | exact Below.refl _ _ | assumption | refine Below.drew ?_ | refine below_drewN ?_ _ | refine Below.alloc ?_ (by first | omega | (simp; done) | (simp; omega)) _ | refine Below.setCell ?_ (by first | omega | (simp; done) | (simp; omega)) _ | refine Below.trans ?_ (Below.mono (by assumption) (by first | omega | (simp; done) | (simp; omega)))))
          have l1 := cell_later hb6 k1
          clear hw6 k0 k1 k2
          refine Calls.mono (HVB.out w6 (HBW.out.trans (hb6.mono HBW.out.size))) ?_
          rintro e w7 ⟨rfl, hb7⟩
          have HB7 := Lib.hid ((HBW.out.trans (hb6.mono HBW.out.size)).trans (hb7.mono (Nat.le_trans HBW.out.size hb6.size)))
          have m1 := cell_later hb7 l1
          obtain ⟨f1, f2, f3, f4, f5, f6⟩ := HFX.out
          have d1 : decide (le ≤ nv) = true := decide_eq_true f1
          have d2 : decide (nv ≤ (i : Int)) = true := decide_eq_true f2
          have d4 : decide (mv ≤ fi) = true := decide_eq_true f4
          have d5 : decide (mv ≤ nv) = true := decide_eq_true f5
          have d6 : decide ((i : Int) - y ≤ nv) = true := decide_eq_true f6
          clear hb6 hb7 l1 f1 f2 f4 f5 f6
          by_cases hy0 : 0 < y
          · clear f3
            go_wp2_with fail
            go_ret
            exact retB rfl HB7.out
          · have f7 : (nv == (i : Int)) = true := by have := f3.resolve_left hy0; simpa using this
            clear f3
            go_wp2_with fail
            go_ret
            exact retB rfl HB7.out
theorem walk (W : World) (g : Gm) (ga : Option Addr) (gc : Nat) (gd : Option Addr) (ge : Nat) (gG : GmAt W g ga gd) (gB : GmBig g) :
    Calls Try.prog 6 #[gmV g ga gc gd ge] W (RetB (.bool true) W) := all g ga gd gc ge W gG gB
end GameBounds
namespace GameBounds
set_option maxRecDepth 100000 in
theorem entry (H : Type) (enc : TypeId × Value → H) (W : World) (base : Nat) (args : Array Value) (ds : List (DataW H)) (p : List MemPlace)
    (hval : ∀ (j : Nat) t v, Try.f6.params[j]? = some t → args[j]? = some v → Value.okWide Try.prog W .any base t v)
    (hA : DataW.TrodAll enc Try.prog W 0 (fun _ => true) true Try.f6.params.toList args.toList ds p) :
    Calls Try.prog 6 args W (RetB (.bool true) W) := by
  rw [Try.params6] at hA hval
  obtain ⟨v0, vs0, d0, ds0, p0, q0, hargs, rfl, rfl, h0, r0⟩ := trodAll_cons hA
  obtain ⟨rfl, rfl, rfl⟩ := trodAll_nil r0
  obtain rfl : args = #[v0] := by cases args; simp_all
  obtain ⟨g, ga, gc, gd, ge, rfl, gG, gB⟩ := open_game (hval 0 25 v0 rfl rfl) h0
  exact walk W g ga gc gd ge gG gB
end GameBounds
/-! The step from the walk to the row of GameBounds. -/
namespace GameBounds
set_option maxRecDepth 100000 in
theorem lifted (os : Os) (started : os.Started) (H : Type) (enc : TypeId × Value → H) :
    ReturnsInHanded {} Try.checked os 6 .any (Rows.gameBoundsSpec.pre6 enc Try.prog Try.f6 Rows.gameBoundsRow.domain false) (Rows.gameBoundsSpec.post enc Try.prog Try.f6 false true false false) := by
  refine returnsInHanded_of_change (C := Try.checked) own started (by kernel_rfl) Try.func6
    (ChangeSpec.witness6 (enc := enc) (C := Try.checked) false ⟨#[], #[.agg #[.slice none 0 0, .slice none 0 0, .int .i64 0]], []⟩ 8 (by kernel_rfl) (by kernel_rfl) (by kernel_rfl) (by kernel_rfl)) ?_
  intro W base args ds gs before hval0 hW hcnd _
  have hval : ∀ (j : Nat) t v, Try.f6.params[j]? = some t → args[j]? = some v → Value.okWide Try.prog W .any base t v := hval0
  have hW' := hW
  obtain ⟨p, q, hA0, hV, rfl, hfz, hnd⟩ := hW
  have hA : DataW.TrodAll enc Try.prog W 0 (fun _ => true) true Try.f6.params.toList args.toList ds p := hA0
  obtain ⟨rfl, rfl⟩ := trodVars_none hV
  have hlen := trodAll_len _ _ _ _ hA
  obtain ⟨d0, rfl⟩ : ∃ d0, ds = [d0] := by
    rw [Try.params6] at hlen
    exact list1 hlen
  refine (entry H enc W base args [d0] p hval hA).mono fun e W' ⟨he, bel⟩ => ?_
  subst he
  exact ⟨_, rfl, _, _, _, [], _, [], hW', trodAll_mk1 (shut_bool Try.underlying4 _), readback laidOut _ _ _ _ (by rw [Try.params6]; exact of_decide_eq_true (by kernel_rfl)) hA bel, rfl, bel.frame _, fun h => by cases h⟩

theorem over : Rows.gameBoundsRow.holds Try.pinned (OpenSpec.ofChange Rows.gameBoundsSpec) :=
  OpenClaim.holds_of_wide 6 Try.f6 rfl rfl rfl rfl rfl rfl rfl ⟨rfl, rfl, rfl, rfl, rfl⟩ rfl rfl rfl rfl rfl (by kernel_rfl) Try.func6 (by kernel_rfl)
    (of_decide_eq_true (by kernel_rfl)) (by unfold Func.isWrapper; first | (rw [if_pos (by decide +kernel)]; kernel_rfl) | (rw [if_neg (by decide +kernel)]; exact ⟨rfl, rfl⟩))
    (fun os started H enc _ => lifted os started H enc)

/-- THE STATEMENT -/
theorem proved : Rows.GameBoundsSaid := over
end GameBounds
#print axioms GameBounds.proved
end Go.Proofs.Ytlkknoooeldomaa
