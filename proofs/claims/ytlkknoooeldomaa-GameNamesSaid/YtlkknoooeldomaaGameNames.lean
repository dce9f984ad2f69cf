




/- For every game, with the vehicles in the opposite order the value is the same (at most 6 departures and 4 vehicles, else nothing is said). -/
import Derived.Test.YtlkknoooeldomaaGamT
import Derived.Test.YtlkknoooeldomaaLift
namespace Go.Proofs.Ytlkknoooeldomaa
open Go.ChangeShapes Go.WideShapes Go.ChangeAt Go.RowKit Go.Joins
namespace GameNames

/-! ### plain -/
def rho (n : Nat) (d : List Int) : List Int := (d.map fun v => (n : Int) - 1 - v).reverse
def revG (g : Gm) : Gm := ⟨g.starts.reverse, g.deps.map (rho g.starts.length), g.budget⟩
theorem rho_rho (n : Nat) (d : List Int) : rho n (rho n d) = d := by
  unfold rho
  rw [List.map_reverse, List.reverse_reverse, List.map_map]
  have : ((fun v => (n : Int) - 1 - v) ∘ fun v => (n : Int) - 1 - v) = id := by funext v; simp; omega
  rw [this, List.map_id]
theorem mem_rho {n : Nat} {d : List Int} {v : Int} (h : v ∈ d) : (n : Int) - 1 - v ∈ rho n d := by
  unfold rho
  rw [List.mem_reverse]
  exact List.mem_map.2 ⟨v, h, rfl⟩
theorem of_rho {n : Nat} {d : List Int} {v : Int} (h : v ∈ rho n d) : ∃ u ∈ d, v = (n : Int) - 1 - u := by
  unfold rho at h
  rw [List.mem_reverse] at h
  obtain ⟨u, hu, rfl⟩ := List.mem_map.1 h
  exact ⟨u, hu, rfl⟩
theorem ig_rev {s : List Int} {i : Nat} (h : i < s.length) : ig s.reverse (s.length - 1 - i) = ig s i := by
  rw [ig_lt (by rw [List.length_reverse]; omega), ig_lt h, List.getElem_reverse]
  congr 1
  omega
theorem rev_set {s : List Int} {i : Nat} (h : i < s.length) (x : Int) : s.reverse.set (s.length - 1 - i) x = (s.set i x).reverse := by
  refine ig_ext (by simp) fun j => ?_
  by_cases hj : j < s.length
  · obtain ⟨k, hk, rfl⟩ : ∃ k, k < s.length ∧ j = s.length - 1 - k := ⟨s.length - 1 - j, by omega, by omega⟩
    have e := ig_rev (s := s.set i x) (i := k) (by rw [List.length_set]; exact hk)
    rw [List.length_set] at e
    rw [e, ig_set, ig_set, ig_rev hk, List.length_reverse]
    by_cases hik : i = k
    · subst hik; rw [if_pos ⟨rfl, by omega⟩, if_pos ⟨rfl, hk⟩]
    · rw [if_neg (by omega), if_neg (fun h => hik h.1)]
  · rw [ig_out (by simp; omega), ig_out (by simp; omega)]
theorem rev_dec {s : List Int} {v : Int} (h0 : 0 ≤ v) (h : v < s.length) : dec s.reverse ((s.length : Int) - 1 - v) = (dec s v).reverse := by
  have e : ((s.length : Int) - 1 - v).toNat = s.length - 1 - v.toNat := by omega
  unfold dec
  rw [e, ig_rev (by omega), rev_set (by omega)]
theorem LeV_rev : ∀ {ds : List (List Int)} {s : List Int} {b x : Int}, (∀ d ∈ ds, ∀ v ∈ d, 0 ≤ v ∧ v < s.length) → LeV ds s b x → LeV (ds.map (rho s.length)) s.reverse b x
  | [], _, _, _, _, h => h
  | d :: ds, s, b, x, hr, h => fun m hm => by
    have key : ∀ (t : List Int) (c : Int), t.length = s.length → (LeV ds t c (x - 1) ∨ ∃ v ∈ d, 0 < ig t v.toNat ∧ LeV ds (dec t v) c x) → (LeV (ds.map (rho s.length)) t.reverse c (x - 1) ∨ ∃ v ∈ rho s.length d, 0 < ig t.reverse v.toNat ∧ LeV (ds.map (rho s.length)) (dec t.reverse v) c x) := fun t c ht h' => by
      have hr' : ∀ d' ∈ ds, ∀ v ∈ d', 0 ≤ v ∧ v < t.length := fun d' hd' => by rw [ht]; exact hr d' (by simp [hd'])
      rcases h' with h1 | ⟨v, h1, h2, h3⟩
      · left
        have := LeV_rev hr' h1
        rw [ht] at this
        exact this
      · right
        obtain ⟨v0, v1⟩ := hr d (by simp) v h1
        refine ⟨(s.length : Int) - 1 - v, mem_rho h1, ?_, ?_⟩
        · rw [← ht, show ((t.length : Int) - 1 - v).toNat = t.length - 1 - v.toNat by omega, ig_rev (by omega)]
          exact h2
        · rw [← ht, rev_dec v0 (by omega)]
          have := LeV_rev (ds := ds) (s := dec t v) (by rw [dec_len]; exact hr') h3
          rw [dec_len] at this
          exact this
    rcases mem_mvs.1 hm with rfl | ⟨hb, i, hi, rfl⟩
    · exact key s b rfl (h (s, b) (mem_mvs.2 (.inl rfl)))
    · rw [List.length_reverse] at hi
      have e : s.reverse.set i 0 = (s.set (s.length - 1 - i) 0).reverse := by
        have := rev_set (s := s) (i := s.length - 1 - i) (by omega) 0
        rw [show s.length - 1 - (s.length - 1 - i) = i by omega] at this
        exact this
      rw [e]
      exact key (s.set (s.length - 1 - i) 0) (b - 1) (by simp) (h (s.set (s.length - 1 - i) 0, b - 1) (mem_mvs.2 (.inr ⟨hb, s.length - 1 - i, by omega, rfl⟩)))
theorem rows_in {g : Gm} (hv : VG g) : ∀ d ∈ g.deps, ∀ v ∈ d, 0 ≤ v ∧ v < g.starts.length := fun d hd v hvd => by
  obtain ⟨i, hi, rfl⟩ := List.getElem_of_mem hd
  have := hv.2.2.2.2.2 i hi
  have e : dg g i = g.deps[i] := by unfold dg; rw [List.getD_eq_getElem?_getD, List.getElem?_eq_getElem hi]; rfl
  rw [e] at this
  exact okDep_domG this hvd
theorem ig_rho {n : Nat} {d : List Int} {i : Nat} (h : i < d.length) : ig (rho n d) i = (n : Int) - 1 - ig d (d.length - 1 - i) := by
  have hl : (d.map fun v => (n : Int) - 1 - v).length = d.length := List.length_map _
  have := ig_rev (s := d.map fun v => (n : Int) - 1 - v) (i := d.length - 1 - i) (by rw [hl]; omega)
  rw [hl, show d.length - 1 - (d.length - 1 - i) = i by omega] at this
  unfold rho
  rw [this, ig_lt (by rw [hl]; omega), List.getElem_map, ig_lt (by omega)]
theorem rho_len (n : Nat) (d : List Int) : (rho n d).length = d.length := by simp [rho]
theorem okDep_mono {m : Nat} {l : List Int} (h : okDep m l) {i : Nat} (hi : i + 1 < l.length) : ig l i < ig l (i + 1) := by
  have := (h (i + 1) hi).1
  rw [if_neg (by omega), Nat.add_sub_cancel] at this
  exact this
theorem rho_ok {n : Nat} {d : List Int} (h : okDep n d) : okDep n (rho n d) := fun i hi => by
  rw [rho_len] at hi
  rw [ig_rho hi]
  have hd := okDep_domG h (ig_mem (l := d) (i := d.length - 1 - i) (by omega))
  refine ⟨?_, by omega⟩
  split
  · omega
  · rw [ig_rho (by omega)]
    have := okDep_mono h (i := d.length - 1 - i) (by omega)
    rw [show d.length - 1 - i + 1 = d.length - 1 - (i - 1) by omega] at this
    omega
def prodL (s : List Int) : Int := s.foldr (fun a p => 2 * (a + 1) * p) 1
theorem prod_snoc (s : List Int) (a : Int) : prodL (s ++ [a]) = prodL s * (2 * (a + 1)) := by
  unfold prodL
  induction s with
  | nil => simp
  | cons y s ih =>
    show 2 * (y + 1) * (s ++ [a]).foldr _ 1 = 2 * (y + 1) * s.foldr _ 1 * _
    rw [ih]
    exact (Int.mul_assoc _ _ _).symm
theorem prod_rev (s : List Int) : prodL s.reverse = prodL s := by
  induction s with
  | nil => rfl
  | cons y s ih =>
    rw [List.reverse_cons, prod_snoc, ih, Int.mul_comm]
    rfl
theorem szG_prod (g : Gm) : ∀ i, i ≤ g.starts.length → szG g i = szG g 0 * prodL (g.starts.take i)
  | 0, _ => by simp [prodL]
  | i + 1, hi => by
    rw [take_snoc (by omega), prod_snoc, ← Int.mul_assoc, ← szG_prod g i (by omega), ← ig_lt (by omega)]
    rfl
theorem rev_vg {g : Gm} (hv : VG g) : VG (revG g) := by
  have hl : (revG g).starts.length = g.starts.length := List.length_reverse
  have hd : (revG g).deps.length = g.deps.length := List.length_map _
  refine ⟨by rw [hl]; exact hv.1, by rw [hd]; exact hv.2.1, hv.2.2.1, hv.2.2.2.1, fun i hi => ?_, fun i hi => ?_⟩
  · rw [hl] at hi
    have := ig_rev (s := g.starts) (i := g.starts.length - 1 - i) (by omega)
    rw [show g.starts.length - 1 - (g.starts.length - 1 - i) = i by omega] at this
    show 0 ≤ ig g.starts.reverse i ∧ ig g.starts.reverse i ≤ 12
    rw [this]
    exact hv.2.2.2.2.1 _ (by omega)
  · rw [hd] at hi
    rw [hl]
    have e : dg (revG g) i = rho g.starts.length (dg g i) := by
      unfold dg
      show (g.deps.map _).getD i [] = _
      rw [List.getD_eq_getElem?_getD, List.getD_eq_getElem?_getD, List.getElem?_map, List.getElem?_eq_getElem hi]
      rfl
    rw [e]
    exact rho_ok (hv.2.2.2.2.2 i hi)
theorem rev_sm {g : Gm} (hs : SmG g) : SmG (revG g) := by
  have hl : (revG g).starts.length = g.starts.length := List.length_reverse
  have h0 : szG (revG g) 0 = szG g 0 := by
    show max 1 ((g.deps.map _).length : Int) * _ = _
    rw [List.length_map]
    rfl
  unfold SmG at *
  rw [szG_prod _ _ (Nat.le_refl _), List.take_length] at *
  rw [h0]
  show szG g 0 * prodL g.starts.reverse ≤ _
  rw [prod_rev]
  exact hs
theorem rev_val {g : Gm} (hv : VG g) : WG (revG g) (beginS (revG g)) = WG g (beginS g) := by
  have key : ∀ x, WG (revG g) (beginS (revG g)) ≤ x ↔ WG g (beginS g) ≤ x := fun x => by
    rw [val_LeV (rev_vg hv), val_LeV hv]
    constructor
    · intro h
      have := LeV_rev (ds := (revG g).deps) (s := (revG g).starts) (rows_in (rev_vg hv)) h
      have e1 : (revG g).starts.length = g.starts.length := List.length_reverse
      rw [e1] at this
      have e2 : (revG g).deps.map (rho g.starts.length) = g.deps := by
        show (g.deps.map _).map _ = _
        rw [List.map_map]
        have : (rho g.starts.length ∘ rho g.starts.length) = id := by funext d; exact rho_rho _ d
        rw [this, List.map_id]
      rw [e2] at this
      have e3 : (revG g).starts.reverse = g.starts := List.reverse_reverse _
      rw [e3] at this
      exact this
    · exact LeV_rev (rows_in hv)
  have a := (key (WG g (beginS g))).2 (Int.le_refl _)
  have b := (key (WG (revG g) (beginS (revG g)))).1 (Int.le_refl _)
  omega
/-! ### in memory -/
structure NaI (g : Gm) (sa : Option Addr) (sc : Nat) (da : Option Addr) (dc : Nat) (w : World) (O : Nat) (va : Value) (S : List Int) (vd : Value) (R : List (Option Addr × Nat × Nat)) (W : World) : Prop where
  bl : Below w.heap.size w W
  gb : BoxAt W w.heap.size (gmC g sa sc da dc)
  o : BoxAt W O [va, vd, .int .i64 g.budget]
  lo : w.heap.size < O
  s : EI.Own W (O + 1) va S
  d : ER.Own W (O + 1) vd R
/-- rows of one's own -/
def RowsO (W : World) (B : Nat) (R : List (Option Addr × Nat × Nat)) (L : List (List Int)) : Prop := R.length = L.length ∧ ∀ j (h : j < R.length) (h' : j < L.length), R[j].2.1 = L[j].length ∧ EI.Own W B (.slice R[j].1 R[j].2.1 R[j].2.2) L[j]
theorem RowsO.block {W W' : World} {B : Nat} {R : List (Option Addr × Nat × Nat)} {L : List (List Int)} (h : RowsO W B R L) (hb : ∀ b, B ≤ b → b < W.heap.size → IsTy W b 3 → W'.heap[b]? = W.heap[b]?) : RowsO W' B R L :=
  ⟨h.1, fun j h1 h2 => ⟨(h.2 j h1 h2).1, (h.2 j h1 h2).2.block fun b hbk => hb b ((h.2 j h1 h2).2.lt b hbk).1 ((h.2 j h1 h2).2.lt b hbk).2 ((h.2 j h1 h2).2.ty hbk)⟩⟩
theorem RowsO.snoc {W : World} {B : Nat} {R : List (Option Addr × Nat × Nat)} {L : List (List Int)} (h : RowsO W B R L) {a : Option Addr} {c : Nat} {x : List Int} (hx : EI.Own W B (.slice a x.length c) x) : RowsO W B (R ++ [(a, x.length, c)]) (L ++ [x]) := by
  refine ⟨by simp [h.1], fun j h1 h2 => ?_⟩
  by_cases hj : j < R.length
  · have hj' : j < L.length := by rw [← h.1]; exact hj
    simp only [List.getElem_append_left hj, List.getElem_append_left hj']
    exact h.2 j hj hj'
  · have e : j = R.length := by simp at h1; omega
    subst e
    have e2 : R.length = L.length := h.1
    simp only [List.getElem_append_right (Nat.le_refl _), Nat.sub_self, List.getElem_cons_zero]
    have : (L ++ [x])[R.length]'h2 = x := by
      rw [List.getElem_append_right (by omega)]
      simp [e2]
    rw [this]
    exact ⟨rfl, hx⟩
theorem NaI.row {g : Gm} {sa da : Option Addr} {sc dc O : Nat} {w W W1 w7 : World} {va vd vd' : Value} {S x : List Int} {R : List (Option Addr × Nat × Nat)} {L : List (List Int)} {a : Option Addr} {c : Nat} (h : NaI g sa sc da dc w O va S vd R W) (hr : RowsO W (O + 1) R L)
    (hb : Below W.heap.size W W1) (hx : EI.Own W1 W.heap.size (.slice a x.length c) x) (ho : ER.Own w7 (O + 1) vd' (R ++ [(a, x.length, c)])) (hg : (W1.alloc (.cells #[.slice a x.length c] 22)).grownBy w7 vd.ownBlock) :
    NaI g sa sc da dc w O va S vd' (R ++ [(a, x.length, c)]) (w7.setCell ⟨O, 1, none⟩ vd') ∧ RowsO (w7.setCell ⟨O, 1, none⟩ vd') (O + 1) (R ++ [(a, x.length, c)]) (L ++ [x]) := by
  obtain ⟨W2, hW2⟩ : ∃ W2, W2 = W1.alloc (.cells #[.slice a x.length c] 22) := ⟨_, rfl⟩
  rw [← hW2] at hg
  have h12 : Below W1.heap.size W1 W2 := by rw [hW2]; exact (Below.refl _ _).alloc (Nat.le_refl _) _
  have h02 : Below W.heap.size W W2 := hb.trans (h12.mono hb.size)
  have hOW := h.o.lt
  have hty2 : ∀ b, vd.ownBlock = some b → IsTy W2 b 22 := fun b hbk => (h.d.ty hbk).block (h02.block b (h.d.lt b hbk).2)
  have hc : Chg (fun k => k = O ∨ vd.ownBlock = some k) W2 (w7.setCell ⟨O, 1, none⟩ vd') := ((Chg.refl _ W2).grown hg fun k hk _ => .inr hk).setCell (p := ⟨O, 1, none⟩) (fun _ => .inl rfl) _
  have hne : ∀ b, O < b → IsTy W2 b 3 → ¬ (b = O ∨ vd.ownBlock = some b) := fun b h1 h2 h3 => by
    rcases h3 with h3 | h3
    · omega
    · exact (hty2 b h3).ne h2 (by decide) rfl
  have hx2 : EI.Own W2 W.heap.size (.slice a x.length c) x := hx.later h12
  refine ⟨⟨(h.bl.trans (h02.mono h.bl.size)).trans (hc.below (Nat.le_trans h.bl.size h02.size) fun k hk => ?_), (h.gb.later h02).chg hc ?_ (h.gb.later h02).lt, ?_, h.lo, ?_, ?_⟩, ?_⟩
  · have := h.lo
    rcases hk with hk | hk
    · omega
    · have := (h.d.lt k hk).1; omega
  · have := h.lo
    rintro (hk | hk)
    · omega
    · have := (h.d.lt _ hk).1; omega
  · have hb7 : BoxAt w7 O [va, vd, .int .i64 g.budget] := (h.o.later h02).grown' hg fun e => by have := (h.d.lt O e).1; omega
    exact hb7.put 1 vd' (by simp)
  · exact (h.s.later h02).block fun b hbk => hc.block b ((h.s.later h02).lt b hbk).2 (hne b (h.s.lt b hbk).1 ((h.s.later h02).ty hbk))
  · exact ho.block fun b hbk => heap_setCell_other w7 ⟨O, 1, none⟩ b vd' (by have := (ho.lt b hbk).1; intro e; have e' : b = O := e; omega)
  · have hr2 : RowsO W2 (O + 1) R L := hr.block fun b _ hlt _ => h02.block b hlt
    refine RowsO.snoc (hr2.block fun b hB hlt hT => hc.block b hlt (hne b hB hT)) ?_
    exact (hx2.block fun b hbk => hc.block b (hx2.lt b hbk).2 (hne b (by have := (hx2.lt b hbk).1; omega) (hx2.ty hbk))).mono (by omega)
set_option maxRecDepth 100000 in
set_option maxHeartbeats 8000000 in
theorem all (g : Gm) (sa da : Option Addr) (sc dc : Nat) (w : World) (hG : GmAt w g sa da) (hF : GmBig g) : Calls Try.prog 8 #[gmV g sa sc da dc] w (RetB (.bool true) w) := by
  have HG := Lib.hid hG
  have HF := Lib.hid hF
  clear hG hF
  go_enter Try.func8, Try.ntmps8
  go_wp2_with fail
  refine calls_named ?_
  intro w0 hw0
  obtain ⟨hbx, _, hx, _⟩ := alloc1 w [.slice sa g.starts.length sc, .slice da g.deps.length dc, .int .i64 g.budget] 25 w0 hw0
  have HX := Lib.hid hx
  have HBX := Lib.hid hbx
  clear hw0 hx hbx
  refine Calls.mono (head_any w0) ?_
  rintro e w1 ⟨rfl, hb1⟩
  have HB1 := Lib.hid (HBX.out.trans (hb1.mono HBX.out.size))
  have hx1 := HX.out.later hb1
  have HX1 := Lib.hid hx1
  have c0 := (hx1 0 _ rfl).1
  have c1 := (hx1 1 _ rfl).1
  have c2 := (hx1 2 _ rfl).1
  clear hb1 hx1
  go_wp2_with fail
  refine Calls.mono (few_any g sa da sc dc w1 (HG.out.later HB1.out) HF.out) ?_
  rintro e w2 ⟨rfl, hb2⟩
  have HB2 := Lib.hid (HB1.out.trans (hb2.mono HB1.out.size))
  have hx2 := HX1.out.later hb2
  have HX2 := Lib.hid hx2
  clear c0 c1 c2
  have c0 := (hx2 0 _ rfl).1
  have c1 := (hx2 1 _ rfl).1
  have c2 := (hx2 2 _ rfl).1
  clear hb2 hx2
  cases hfew : fewB g
  · clear hfew
    go_wp2_with fail
    go_ret
    exact retB rfl HB2.out
  obtain ⟨hv, hsm, h6, h4⟩ := fewB_of hfew
  have HV := Lib.hid hv
  have HSM := Lib.hid hsm
  have H64 := Lib.hid (And.intro h6 h4)
  have HFW := Lib.hid (VG.few hv)
  have HG2 := Lib.hid (HG.out.later HB2.out)
  clear hfew hv hsm h6 h4
  obtain ⟨n, hn⟩ : ∃ n, n = g.starts.length := ⟨_, rfl⟩
  obtain ⟨nd, hnd⟩ : ∃ n, n = g.deps.length := ⟨_, rfl⟩
  obtain ⟨bu, hbu⟩ : ∃ n, n = g.budget := ⟨_, rfl⟩
  have hn4 : n ≤ 4 := by rw [hn]; exact H64.out.2
  have hnd6 : nd ≤ 6 := by rw [hnd]; exact H64.out.1
  rw [← hn] at c0
  rw [← hnd] at c1
  rw [← hbu] at c2
  have HN := Lib.hid hn
  have HND := Lib.hid hnd
  have HBU := Lib.hid hbu
  have wn1 : IntKind.i64.wrap ((n : Int) - 1) = (n : Int) - 1 := IntWalk.i64_in _ (by omega)
  clear hn hnd hbu
  go_upto_region 7 with fail
  refine wp_named ?_
  intro w3 hw3
  obtain ⟨hb3, hs3, hx3, _⟩ := alloc1 w2 [.slice none 0 0, .slice none 0 0, .int .i64 bu] 25 w3 hw3
  obtain ⟨O, hO⟩ : ∃ O, O = w2.heap.size := ⟨_, rfl⟩
  rw [← hO] at hx3 ⊢
  have HI3 := Lib.hid (show NaI g sa sc da dc w O (.slice none 0 0) [] (.slice none 0 0) [] w3 from ⟨HB2.out.trans (hb3.mono HB2.out.size), HX2.out.later hb3, by rw [← HBU.out]; exact hx3, by have := HX2.out.lt; omega, El.Own.nil _ _ _, El.Own.nil _ _ _⟩)
  clear hw3 hb3 hs3 hx3 hO c0 c1 c2
  go_wp2_with fail
  go_loopg [6] (n + 1) (fun gk v6 wr => ∃ (k : Nat) (va : Value), k ≤ n ∧ gk + k = n + 1 ∧ v6 = .int .i64 ((n : Int) - 1 - k) ∧ NaI g sa sc da dc w O va (g.starts.reverse.take k) (.slice none 0 0) [] wr)
  case atStart => exact ⟨0, _, by omega, by omega, by simp, HI3.out⟩
  case round =>
    obtain ⟨k, va, hk, hgk, rfl, hI⟩ := hrel
    obtain ⟨wq, hwq⟩ : ∃ wq, wq = wr := ⟨_, rfl⟩
    subst hwq
    obtain ⟨f, hf⟩ : ∃ f, f = (n : Int) - 1 - k := ⟨_, rfl⟩
    rw [← hf]
    have HIQ := Lib.hid hI
    by_cases hlt : k < n
    · obtain ⟨q, rfl⟩ : ∃ q : Nat, f = q := ⟨f.toNat, by omega⟩
      have hqn : q < n := by omega
      have HQK := Lib.hid (show q + k + 1 = n from by omega)
      obtain ⟨pb, po, rfl, fp⟩ := HG.out.s.fam (by have := HN.out; omega)
      have hrc := fp q (by have := HN.out; omega)
      have kr := cell_later hI.bl hrc
      have hdb : pb < w.heap.size := World.block_lt_of_cell? _ _ hrc
      obtain ⟨x, hx⟩ : ∃ x, x = ig g.starts q := ⟨_, rfl⟩
      rw [← hx] at kr
      have HXR := Lib.hid (show g.starts.reverse.take k ++ [x] = g.starts.reverse.take (k + 1) from by
        have h1 := HN.out
        have h2 := HQK.out
        rw [take_snoc (by rw [List.length_reverse]; omega), ← ig_lt (by rw [List.length_reverse]; omega), hx]
        have := ig_rev (s := g.starts) (i := q) (by omega)
        rw [show g.starts.length - 1 - q = k by omega] at this
        rw [this])
      have k0 := (hI.gb 0 _ rfl).1
      rw [← HN.out] at k0
      have HVB := Lib.hid (show ∀ b, b ≤ w.heap.size → ¬ ((fun _ => False) b ∨ b = O ∨ va.ownBlock = some b) from fun b hb => by
        have := hI.lo
        rintro (h | h | h)
        · exact h
        · omega
        · have := (hI.s.lt b h).1; omega)
      have hc0 := (hI.o 0 _ rfl).1
      have hf0 := (hI.o 0 _ rfl).2
      have hst : ApJ EI (fun _ => False) wq (O + 1) O 0 x va (g.starts.reverse.take k) undef undef false false false wq.drew := ApJ.start hc0 hf0 hI.s
      have HST := Lib.hid hst
      have HVR := Lib.hid (show va.ownBlock ≠ some O from fun e => by have := (hI.s.lt O e).1; omega)
      have HWL := Lib.hid (fun b hb => (hI.s.lt b hb).2)
      have HOL := Lib.hid hI.o.lt
      have HDB := Lib.hid hdb
      have m1 : (q : Int) < (n : Int) := by omega
      have m0 : (0 : Int) ≤ (q : Int) := by omega
      have wq1 : IntKind.i64.wrap ((q : Int) - 1) = (q : Int) - 1 := IntWalk.i64_in _ (by omega)
      have HKR := Lib.hid kr
      have HK0 := Lib.hid k0
      have HLK := Lib.hid hlt
      clear hI hst hc0 hf0 hdb hrc kr hx fp k0 hf hqn hlt hk
      go_upto_region 9 with fail
      refine wp_flow_j (fun β L' w' => ApJ EI (fun _ => False) wq (O + 1) O 0 x va (g.starts.reverse.take k) (β 7) (β 8) (L' 7) (L' 8) (L' 10) w') (by kernel_rfl) (by kernel_rfl) ?h0 ?_
      case h0 => exact HST.out
      iterate 2 (((with_reducible refine FlowJ.pure (v := ?_) ?_ ?_ ?_ ?_); rotate_left 1; (focus (intro _; rfl)); (focus (intro β L' w' hJ hat; (try dsimp only at hJ); (try dsimp only); simpa only [setL, Nat.reduceEqDiff, if_false] using hJ)); (focus (intro β L' w' hJ hat; (try dsimp only at hJ); ((have n10 := hat.not (j := 10) (by kernel_rfl)); have yc := hJ.cell; simp only [n10, Bool.false_eq_true, if_false] at yc); go_simp; (try with_reducible rfl); done)); (try simp only [Act.put, List.setIfInBounds_toArray, List.set_cons_zero, List.set_cons_succ, Nat.reduceAdd])))
      iterate 4 (((with_reducible refine FlowJ.pure (v := ?_) ?_ ?_ ?_ ?_); rotate_left 1; (focus (intro _; rfl)); (focus (intro β L' w' hJ hat; (try dsimp only at hJ); (try dsimp only); simpa only [setL, Nat.reduceEqDiff, if_false] using hJ)); (focus (intro β L' w' hJ hat; (try dsimp only at hJ); (have y1 := hJ.chg.cell HK0.out (HVB.out _ (Nat.le_refl _))); go_simp; (try with_reducible rfl); done)); (try simp only [Act.put, List.setIfInBounds_toArray, List.set_cons_zero, List.set_cons_succ, Nat.reduceAdd])))
      ((with_reducible refine FlowJ.pure (v := ?_) ?_ ?_ ?_ ?_); rotate_left 1; (focus (intro _; rfl)); (focus (intro β L' w' hJ hat; (try dsimp only at hJ); (try dsimp only); simpa only [setL, Nat.reduceEqDiff, if_false] using hJ)); (focus (intro β L' w' hJ hat; (try dsimp only at hJ); (have y1 := hJ.chg.cell HKR.out (HVB.out _ (by show pb ≤ _; have := HDB.out; omega))); go_simp; (try with_reducible rfl); done)); (try simp only [Act.put, List.setIfInBounds_toArray, List.set_cons_zero, List.set_cons_succ, Nat.reduceAdd]))
      ((with_reducible refine FlowJ.ghost ?_ ?_ ?_); (focus (intro _; rfl)); (focus (intro β L' w' hJ hat K' hK; (try dsimp only at hJ); ((have n8 := hat.not (j := 8) (by kernel_rfl)); (have n10 := hat.not (j := 10) (by kernel_rfl)); have un := hat.un; simp only [un, n8, n10] at hJ; go_simp; refine hK.out _ _ ?_; simp only [updG, setL, Nat.reduceEqDiff, if_true, if_false, n8, n10]; exact hJ.made))); (try simp only [Act.put, List.setIfInBounds_toArray, List.set_cons_zero, List.set_cons_succ, Nat.reduceAdd]))
      ((with_reducible refine FlowJ.ghost ?_ ?_ ?_); (focus (intro _; rfl)); (focus (intro β L' w' hJ hat K' hK; (try dsimp only at hJ); ((have p7 := hat.pre 7 (by kernel_rfl)); (have n10 := hat.not (j := 10) (by kernel_rfl)); have un := hat.un; simp only [un, p7, n10] at hJ; obtain ⟨nb, eb, hnb, hbx⟩ := hJ.box rfl; obtain ⟨v', w2, hr, ho, hg, hn⟩ := El.app (E := EI) w' (O + 1) va (g.starts.reverse.take k) [x] hJ.own (some ⟨nb, 0, none⟩) 1 (El.one_at hbx) (by have := HLK.out; simp; omega) (by have := hJ.chg.size; have := HOL.out; omega) 22; refine wp_app_eq (.tmp 32) (.tmp 38) 22 rfl _ _ rfl (by show β 7 = _; exact eb) hr ?_; refine hK.out _ _ ?_; simp only [updG, setL, Nat.reduceEqDiff, if_true, if_false, p7, n10]; exact hJ.app HVR.out ho hg hn HWL.out))); (try simp only [Act.put, List.setIfInBounds_toArray, List.set_cons_zero, List.set_cons_succ, Nat.reduceAdd]))
      ((with_reducible refine FlowJ.pure (v := ?_) ?_ ?_ ?_ ?_); rotate_left 1; (focus (intro _; rfl)); (focus (intro β L' w' hJ hat; (try dsimp only at hJ); (try dsimp only); simpa only [setL, Nat.reduceEqDiff, if_false] using hJ)); (focus (intro β L' w' hJ hat; (try dsimp only at hJ); skip; go_simp; (try with_reducible rfl); done)); (try simp only [Act.put, List.setIfInBounds_toArray, List.set_cons_zero, List.set_cons_succ, Nat.reduceAdd]))
      ((with_reducible refine FlowJ.eff ?_ ?_ ?_); (focus (intro _; rfl)); (focus (intro β L' w' hJ hat K' hK; (try dsimp only at hJ); ((have p8 := hat.pre 8 (by kernel_rfl)); have p7 := hat.down 8 7 p8 (by decide) (by kernel_rfl); have un := hat.un; simp only [un, p7, p8] at hJ; have yc := hJ.cell; have yf := hJ.fro; simp only [Bool.false_eq_true, if_false] at yc; obtain ⟨oa, na, ca, e5⟩ := hJ.own.shape; simp only [if_true] at e5; rw [e5]; go_simp; rw [← e5]; refine hK.out _ ?_; simp only [setL, Nat.reduceEqDiff, if_true, if_false, p7, p8]; exact hJ.stored HVR.out HOL.out))); (try simp only [Act.put, Nat.reduceAdd]))
      refine FlowJ.stop ?_
      dsimp only
      intro β w5 hJ
      have hI := HIQ.out
      have hown := hJ.own
      simp only [if_true] at hown
      have hcell := hJ.cell
      simp only [if_true] at hcell
      have h1 := hJ.rest 1 (by decide)
      have h2 := hJ.rest 2 (by decide)
      have hne : ∀ b, (b = O ∨ va.ownBlock = some b) → w.heap.size < b := fun b hb => by
        have := hI.lo
        rcases hb with h | h
        · omega
        · have := (hI.s.lt b h).1; omega
      have i5 : NaI g (some ⟨pb, po, none⟩) sc da dc w O (β 8) (g.starts.reverse.take (k + 1)) (.slice none 0 0) [] w5 := by
        refine ⟨hI.bl.trans (hJ.chg.below hI.bl.size fun b hb => by
            rcases hb with h | h
            · exact h.elim
            · have := hne b h; omega), hI.gb.chg hJ.chg (fun h => h.elim id fun h => by have := hne _ h; omega) hI.gb.lt, fun j u hu => ?_, hI.lo, by rw [← HXR.out]; exact hown, El.Own.nil _ _ _⟩
        match j, hu with
        | 0, hu => cases hu; exact ⟨hcell, hJ.fro⟩
        | 1, hu => cases hu; exact ⟨h1.1.trans (hI.o 1 _ rfl).1, h1.2.trans (hI.o 1 _ rfl).2⟩
        | 2, hu => cases hu; exact ⟨h2.1.trans (hI.o 2 _ rfl).1, h2.2.trans (hI.o 2 _ rfl).2⟩
        | j + 3, hu => simp at hu
      have HI5 := Lib.hid i5
      clear hJ hI hown hcell h1 h2 hne i5
      go_wp2_with fail
      go_roundg (n - k)
      case measure => have := HLK.out; omega
      case rel => exact ⟨k + 1, β 8, HLK.out, by have := HLK.out; omega, congrArg (Value.int .i64) (by have := HQK.out; omega), HI5.out⟩
    · obtain rfl : n = k := by omega
      have hneg : f < 0 := by omega
      clear hf
      have hI4 : NaI g sa sc da dc w O va g.starts.reverse (.slice none 0 0) [] wq := by
        have := hI
        rw [List.take_of_length_le (by rw [List.length_reverse, HN.out]; exact Nat.le_refl _)] at this
        exact this
      have HI4 := Lib.hid hI4
      clear hI hI4 HIQ HI3 hk hgk hlt
      have k1 := (HI4.out.gb 1 _ rfl).1
      rw [← HND.out] at k1
      go_wp2_with fail
      clear k1
      go_loopg [7] (nd + 1) (fun gk v7 wr => ∃ (i : Nat) (vd : Value) (R : List (Option Addr × Nat × Nat)), i ≤ nd ∧ gk + i = nd + 1 ∧ v7 = .int .i64 i ∧ NaI g sa sc da dc w O va g.starts.reverse vd R wr ∧ RowsO wr (O + 1) R ((g.deps.map (rho g.starts.length)).take i))
      case atStart => exact ⟨0, _, [], by omega, by omega, rfl, HI4.out, rfl, fun j h1 h2 => by simp at h1⟩
      case round =>
        obtain ⟨i, vd, R, hi, hgi, rfl, hI, hR⟩ := hrel
        obtain ⟨wq, hwq⟩ : ∃ wq, wq = wr := ⟨_, rfl⟩
        subst hwq
        have k1 := (hI.gb 1 _ rfl).1
        rw [← HND.out] at k1
        have HIQ := Lib.hid hI
        have HRQ := Lib.hid hR
        by_cases hlt : i < nd
        · obtain ⟨db, doff, ra, rc, rfl, hrow, hRI⟩ := HG.out.d i (by have := HND.out; omega)
          obtain ⟨d, hd⟩ : ∃ d, d = g.deps.getD i [] := ⟨_, rfl⟩
          rw [← hd] at hrow hRI
          have hok : okDep g.starts.length d := by rw [hd]; exact HV.out.2.2.2.2.2 i (by have := HND.out; omega)
          obtain ⟨m, hm⟩ : ∃ m, m = d.length := ⟨_, rfl⟩
          have hm4 : m ≤ 4 := by have h1 := okDep_len hok; have h2 := HN.out; omega
          rw [← hm] at hrow
          have kr := cell_later hI.bl hrow
          have HD := Lib.hid hd
          have HM := Lib.hid hm
          have HOK := Lib.hid hok
          have HKR := Lib.hid kr
          have HRI := Lib.hid (hRI.later hI.bl)
          have HK1 := Lib.hid k1
          have wm1 : IntKind.i64.wrap ((m : Int) - 1) = (m : Int) - 1 := IntWalk.i64_in _ (by omega)
          have m1 : (i : Int) < (nd : Int) := by omega
          have m0 : (0 : Int) ≤ (i : Int) := by omega
          have hlw : w.heap.size < wq.heap.size := hI.gb.lt
          have hdw : db < wq.heap.size := World.block_lt_of_cell? _ _ kr
          have hnil := El.Own.lit (E := EI) wq wq.heap.size (Nat.le_refl _) [] (by simp) #[] rfl
          have HNIL := Lib.hid hnil
          clear hI hR hd hm hok hrow hRI hnil
          go_upto_region 15 with fail
          refine wp_named ?_
          intro w4 hw4
          have HB4 := Lib.hid (show Below wq.heap.size wq w4 from by rw [hw4]; exact (Below.refl _ _).alloc (Nat.le_refl _) _)
          have HO4 := Lib.hid (show EI.Own w4 wq.heap.size (.slice (some ⟨wq.heap.size, 0, none⟩) 0 0) [] from by rw [hw4]; exact HNIL.out)
          clear hw4 k1 kr hlw hdw
          go_wp2_with fail
          go_loopg [8, 9] (m + 1) (fun gk v8 v9 wx => ∃ (k : Nat) (a : Option Addr) (c : Nat), k ≤ m ∧ gk + k = m + 1 ∧ v9 = .int .i64 ((m : Int) - 1 - k) ∧ v8 = .slice a k c ∧ EI.Own wx wq.heap.size (.slice a k c) ((rho g.starts.length d).take k) ∧ Below wq.heap.size wq wx)
          case atStart => exact ⟨0, _, 0, by omega, by omega, by simp, rfl, HO4.out, HB4.out⟩
          case round =>
            obtain ⟨k, a, c, hk, hgk, rfl, rfl, hown, hbx⟩ := hrel
            obtain ⟨wx, hwx⟩ : ∃ wx, wx = wr := ⟨_, rfl⟩
            subst hwx
            obtain ⟨f, hf⟩ : ∃ f, f = (m : Int) - 1 - k := ⟨_, rfl⟩
            rw [← hf]
            have HOW := Lib.hid hown
            have HBX2 := Lib.hid hbx
            have HRL := Lib.hid (rho_len g.starts.length d)
            by_cases hlk : k < m
            · obtain ⟨q, rfl⟩ : ∃ q : Nat, f = q := ⟨f.toNat, by omega⟩
              have HQK := Lib.hid (show q + k + 1 = m from by omega)
              obtain ⟨eb, eo, rfl, fp⟩ := HRI.out.fam (by have := HM.out; omega)
              have kq := cell_later hbx (fp q (by have := HM.out; omega))
              have kr := cell_later hbx HKR.out
              have k1 := cell_later hbx HK1.out
              obtain ⟨y, hy⟩ : ∃ y, y = ig d q := ⟨_, rfl⟩
              have hy2 : 0 ≤ y ∧ y < (n : Int) := by
                rw [hy, HN.out]
                exact okDep_domG HOK.out (ig_mem (by have := HM.out; omega))
              have hnx : (rho g.starts.length d).take k ++ [(n : Int) - 1 - y] = (rho g.starts.length d).take (k + 1) := by
                have h1 := HM.out
                have h2 := HQK.out
                rw [take_snoc (by rw [rho_len]; omega), ← ig_lt (by rw [rho_len]; omega), ig_rho (by omega), show d.length - 1 - k = q by omega, hy, HN.out]
              rw [← hy] at kq
              have wy1 : IntKind.i64.wrap ((n : Int) - 1 - y) = (n : Int) - 1 - y := IntWalk.i64_in _ (by omega)
              have q1 : IntKind.i64.wrap ((q : Int) - 1) = (q : Int) - 1 := IntWalk.i64_in _ (by omega)
              have q2 : (q : Int) < (m : Int) := by omega
              have q0 : (0 : Int) ≤ (q : Int) := by omega
              have hA : Below wx.heap.size wx (wx.alloc (.cells #[.int .i64 ((n : Int) - 1 - y)] 3)) := (Below.refl _ _).alloc (Nat.le_refl _) _
              have hEm : Below wq.heap.size wq (wx.alloc (.cells #[.int .i64 ((n : Int) - 1 - y)] 3)) := hbx.trans (hA.mono hbx.size)
              obtain ⟨v', w5, hr, ho, hg, hnn⟩ := El.app (E := EI) _ wq.heap.size _ _ [(n : Int) - 1 - y] (hown.later hA) (some ⟨wx.heap.size, 0, none⟩) 1 (El.one_at (BoxAt.new wx _ _)) (by simp; omega) hEm.size 22
              simp only [List.length_cons, List.length_nil, Nat.zero_add] at hr
              have hb5 : Below wq.heap.size wq w5 := hEm.grown hg hEm.size (fun b hb => (hown.lt b hb).1)
              rw [hnx] at ho
              obtain ⟨a5, c5, e5, _⟩ := ho.at
              rw [List.length_take_of_le (by have := HRL.out; have := HM.out; omega)] at e5
              subst e5
              have HR := Lib.hid hr
              have HO5 := Lib.hid ho
              have HB5 := Lib.hid hb5
              have HLK := Lib.hid hlk
              clear hown hbx hf hy hy2 hnx hA hEm hr ho hg hnn hb5 fp hlk hk
              go_wp2_with (at_builtin; go_loud (refine wpList_app_eq rfl _ _ _ rfl _ _ rfl rfl HR.out ?_))
              go_roundg (m - k)
              case measure => have := HLK.out; omega
              case rel => exact ⟨k + 1, a5, c5, HLK.out, by have := HLK.out; omega, congrArg (Value.int .i64) (by have := HQK.out; omega), rfl, HO5.out, HB5.out⟩
            · obtain rfl : m = k := by omega
              have hneg : f < 0 := by omega
              clear hf
              have hrow : EI.Own wx wq.heap.size (.slice a (rho g.starts.length d).length c) (rho g.starts.length d) := by
                rw [List.take_of_length_le (by have := HRL.out; have := HM.out; omega)] at hown
                rw [HRL.out, ← HM.out]
                exact hown
              have hA : Below wx.heap.size wx (wx.alloc (.cells #[.slice a m c] 22)) := (Below.refl _ _).alloc (Nat.le_refl _) _
              have hB : Below wq.heap.size wq (wx.alloc (.cells #[.slice a m c] 22)) := hbx.trans (hA.mono hbx.size)
              have hRl : R.length ≤ 6 := by
                have := HRQ.out.1
                rw [List.length_take] at this
                omega
              obtain ⟨v', w5, hr, ho, hg, hnn⟩ := El.app (E := ER) _ (O + 1) vd R [(a, m, c)] (HIQ.out.d.later hB) (some ⟨wx.heap.size, 0, none⟩) 1 (El.one_at (BoxAt.new wx _ _)) (by simp; omega) (by have := HIQ.out.o.lt; have := hB.size; omega) 23
              simp only [List.length_cons, List.length_nil, Nat.zero_add] at hr
              obtain ⟨oa, na, ca, e9⟩ := ho.shape
              subst e9
              have hml : m = (rho g.starts.length d).length := by rw [HRL.out, ← HM.out]
              have ho' : ER.Own w5 (O + 1) (.slice oa na ca) (R ++ [(a, (rho g.starts.length d).length, c)]) := by rw [← hml]; exact ho
              have hg' : (wx.alloc (.cells #[.slice a (rho g.starts.length d).length c] 22)).grownBy w5 vd.ownBlock := by rw [← hml]; exact hg
              obtain ⟨i6, r6⟩ := NaI.row HIQ.out HRQ.out hbx hrow ho' hg'
              have etk : (g.deps.map (rho g.starts.length)).take i ++ [rho g.starts.length d] = (g.deps.map (rho g.starts.length)).take (i + 1) := by
                have h1 := HND.out
                have hid : i < g.deps.length := by omega
                rw [take_snoc (by rw [List.length_map]; exact hid), List.getElem_map, HD.out, List.getD_eq_getElem?_getD, List.getElem?_eq_getElem hid]
                rfl
              rw [etk] at r6
              have hb7 : BoxAt w5 O [va, vd, .int .i64 g.budget] := (HIQ.out.o.later hB).grown' hg fun e => by have := (HIQ.out.d.lt O e).1; omega
              have o1 := (hb7 1 _ rfl).1
              have f1 := (hb7 1 _ rfl).2
              have l1 := ((HIQ.out.o.later hbx) 1 _ rfl).1
              have hOx : O < wx.heap.size := by have := HIQ.out.o.lt; have := hbx.size; omega
              have HR := Lib.hid hr
              have HI6 := Lib.hid i6
              have HR6 := Lib.hid r6
              have hi1 : IntKind.i64.wrap ((i : Int) + 1) = (i : Int) + 1 := IntWalk.i64_in _ (by omega)
              clear hown hbx hrow hA hB hRl hr ho hg hnn hml ho' hg' i6 r6 etk hb7 hgk hk hlk HBX2 HOW
              go_wp2_with first | (at_builtin; go_loud (refine wpList_app_eq rfl _ _ _ rfl _ _ rfl rfl HR.out ?_))
              go_roundg (nd - i)
              case measure => omega
              case rel => exact ⟨i + 1, _, _, by omega, by omega, by go_num, HI6.out, HR6.out⟩
        · obtain rfl : nd = i := by omega
          have hRn : R.length = nd := by
            have := hR.1
            rw [List.length_take, List.length_map] at this
            have := HND.out
            omega
          obtain ⟨a1, c1, e1, _, _, hat1, _⟩ := hI.s.at
          obtain ⟨a2, c2, e2, _, _, hat2, _⟩ := hI.d.at
          rw [List.length_reverse, ← HN.out] at e1
          rw [hRn] at e2
          subst e1 e2
          have hl : (g.deps.map (rho g.starts.length)).take nd = (revG g).deps := by
            show _ = g.deps.map (rho g.starts.length)
            exact List.take_of_length_le (by rw [List.length_map]; have := HND.out; omega)
          rw [hl] at hR
          have hat : GmAt wq (revG g) a1 a2 := ⟨hat1.ints, fun j hj => by
            have hj' : j < R.length := by rw [hR.1]; exact hj
            have hu : (R.flatMap ER.cf)[j]? = some (.slice R[j].1 R[j].2.1 R[j].2.2) := by
              have h := ER.fat R j hj' 0 (by decide)
              rw [show j * ER.S + 0 = j by show j * 1 + 0 = j; omega] at h
              rw [h]
              rfl
            obtain ⟨b, off, ea, hcell⟩ := hat2 j _ hu
            obtain ⟨q1, q2⟩ := hR.2 j hj' hj
            rw [q1] at q2
            obtain ⟨a3, c3, e3, _, _, hat3, _⟩ := q2.at
            have et : (revG g).deps.getD j [] = (revG g).deps[j] := by rw [List.getD_eq_getElem?_getD, List.getElem?_eq_getElem hj]; rfl
            refine ⟨b, off, R[j].1, R[j].2.2, ea, ?_, ?_⟩
            · rw [hcell, et, q1]
            · rw [et]
              rw [(Value.slice.inj e3).1]
              exact hat3.ints⟩
          obtain ⟨x, hx⟩ : ∃ x, x = WG g (beginS g) := ⟨_, rfl⟩
          have hbl := hI.bl
          have HV1 := Lib.hid (show ∀ wy, Below w.heap.size w wy → Calls Try.prog 11 #[.agg #[.slice sa n sc, .slice da nd dc, .int .i64 bu]] wy (RetB (.tuple #[.int .i64 x, .int .i64 0]) wy) from fun wy hb => by
            have h := value_ok g sa da sc dc wy (HG.out.later hb) HV.out HSM.out
            rw [← hx] at h
            have e : gmV g sa sc da dc = .agg #[.slice sa n sc, .slice da nd dc, .int .i64 bu] := by rw [HN.out, HND.out, HBU.out]
            rw [e] at h
            exact h)
          have HV2 := Lib.hid (show ∀ wy, Below wq.heap.size wq wy → Calls Try.prog 11 #[.agg #[.slice a1 n c1, .slice a2 nd c2, .int .i64 bu]] wy (RetB (.tuple #[.int .i64 x, .int .i64 0]) wy) from fun wy hb => by
            have h := value_ok (revG g) a1 a2 c1 c2 wy (hat.later hb) (rev_vg HV.out) (rev_sm HSM.out)
            rw [rev_val HV.out, ← hx] at h
            have e : gmV (revG g) a1 c1 a2 c2 = .agg #[.slice a1 n c1, .slice a2 nd c2, .int .i64 bu] := by
              have e1 : (revG g).starts.length = n := by rw [HN.out]; exact List.length_reverse
              have e2 : (revG g).deps.length = nd := by rw [HND.out]; exact List.length_map _
              have e3 : (revG g).budget = bu := by rw [HBU.out]; rfl
              unfold gmV
              rw [e1, e2, e3]
            rw [e] at h
            exact h)
          have HBL := Lib.hid hbl
          have HOX := Lib.hid (show BoxAt wq O [.slice a1 n c1, .slice a2 nd c2, .int .i64 bu] from by rw [HBU.out]; exact hI.o)
          have c0 := (hI.gb 0 _ rfl).1
          have c2' := (hI.gb 2 _ rfl).1
          rw [← HN.out] at c0
          rw [← HBU.out] at c2'
          clear hI hR hRn hl hat hat1 hat2 hx hbl HIQ HRQ
          go_wp2_with fail
          refine Calls.mono (HV1.out wq HBL.out) ?_
          rintro e w5 ⟨rfl, hb5⟩
          have HB5 := Lib.hid hb5
          clear c0 c2' k1
          have o0 := ((HOX.out.later hb5) 0 _ rfl).1
          have o1 := ((HOX.out.later hb5) 1 _ rfl).1
          have o2 := ((HOX.out.later hb5) 2 _ rfl).1
          clear hb5
          go_wp2_with fail
          refine Calls.mono (HV2.out w5 HB5.out) ?_
          rintro e w6 ⟨rfl, hb6⟩
          have HB6 := Lib.hid (HBL.out.trans ((HB5.out.trans (hb6.mono HB5.out.size)).mono HBL.out.size))
          clear hb6
          go_wp2_with fail
          go_ret
          exact retB rfl HB6.out
theorem walk (W : World) (g : Gm) (ga : Option Addr) (gc : Nat) (gd : Option Addr) (ge : Nat) (gG : GmAt W g ga gd) (gB : GmBig g) :
    Calls Try.prog 8 #[gmV g ga gc gd ge] W (RetB (.bool true) W) := all g ga gd gc ge W gG gB
end GameNames
namespace GameNames
set_option maxRecDepth 100000 in
theorem entry (H : Type) (enc : TypeId × Value → H) (W : World) (base : Nat) (args : Array Value) (ds : List (DataW H)) (p : List MemPlace)
    (hval : ∀ (j : Nat) t v, Try.f8.params[j]? = some t → args[j]? = some v → Value.okWide Try.prog W .any base t v)
    (hA : DataW.TrodAll enc Try.prog W 0 (fun _ => true) true Try.f8.params.toList args.toList ds p) :
    Calls Try.prog 8 args W (RetB (.bool true) W) := by
  rw [Try.params8] at hA hval
  obtain ⟨v0, vs0, d0, ds0, p0, q0, hargs, rfl, rfl, h0, r0⟩ := trodAll_cons hA
  obtain ⟨rfl, rfl, rfl⟩ := trodAll_nil r0
  obtain rfl : args = #[v0] := by cases args; simp_all
  obtain ⟨g, ga, gc, gd, ge, rfl, gG, gB⟩ := open_game (hval 0 25 v0 rfl rfl) h0
  exact walk W g ga gc gd ge gG gB
end GameNames
/-! The step from the walk to the row of GameNames. -/
namespace GameNames
set_option maxRecDepth 100000 in
theorem lifted (os : Os) (started : os.Started) (H : Type) (enc : TypeId × Value → H) :
    ReturnsInHanded {} Try.checked os 8 .any (Rows.gameNamesSpec.pre6 enc Try.prog Try.f8 Rows.gameNamesRow.domain false) (Rows.gameNamesSpec.post enc Try.prog Try.f8 false true false false) := by
  refine returnsInHanded_of_change (C := Try.checked) own started (by kernel_rfl) Try.func8
    (ChangeSpec.witness6 (enc := enc) (C := Try.checked) false ⟨#[], #[.agg #[.slice none 0 0, .slice none 0 0, .int .i64 0]], []⟩ 8 (by kernel_rfl) (by kernel_rfl) (by kernel_rfl) (by kernel_rfl)) ?_
  intro W base args ds gs before hval0 hW hcnd _
  have hval : ∀ (j : Nat) t v, Try.f8.params[j]? = some t → args[j]? = some v → Value.okWide Try.prog W .any base t v := hval0
  have hW' := hW
  obtain ⟨p, q, hA0, hV, rfl, hfz, hnd⟩ := hW
  have hA : DataW.TrodAll enc Try.prog W 0 (fun _ => true) true Try.f8.params.toList args.toList ds p := hA0
  obtain ⟨rfl, rfl⟩ := trodVars_none hV
  have hlen := trodAll_len _ _ _ _ hA
  obtain ⟨d0, rfl⟩ : ∃ d0, ds = [d0] := by
    rw [Try.params8] at hlen
    exact list1 hlen
  refine (entry H enc W base args [d0] p hval hA).mono fun e W' ⟨he, bel⟩ => ?_
  subst he
  exact ⟨_, rfl, _, _, _, [], _, [], hW', trodAll_mk1 (shut_bool Try.underlying4 _), readback laidOut _ _ _ _ (by rw [Try.params8]; exact of_decide_eq_true (by kernel_rfl)) hA bel, rfl, bel.frame _, fun h => by cases h⟩

theorem over : Rows.gameNamesRow.holds Try.pinned (OpenSpec.ofChange Rows.gameNamesSpec) :=
  OpenClaim.holds_of_wide 8 Try.f8 rfl rfl rfl rfl rfl rfl rfl ⟨rfl, rfl, rfl, rfl, rfl⟩ rfl rfl rfl rfl rfl (by kernel_rfl) Try.func8 (by kernel_rfl)
    (of_decide_eq_true (by kernel_rfl)) (by unfold Func.isWrapper; first | (rw [if_pos (by decide +kernel)]; kernel_rfl) | (rw [if_neg (by decide +kernel)]; exact ⟨rfl, rfl⟩))
    (fun os started H enc _ => lifted os started H enc)

/-- THE STATEMENT -/
theorem proved : Rows.GameNamesSaid := over
end GameNames
#print axioms GameNames.proved
end Go.Proofs.Ytlkknoooeldomaa
