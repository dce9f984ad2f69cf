


/- JudgeLost: for every valid game with at most 4 departures and 3 vehicles, the plan that never chooses a vehicle is accepted with the number of departures, and with none that is less: the call of the law returns true, for every input. -/
import Derived.Test.YtghdfoolieagfaaJdgLs
namespace Go.Proofs.Ytghdfoolieagfaa
open Go.ChangeShapes Go.WideShapes Go.ChangeAt Go.RowKit Go.Joins

theorem BoxAt.put {w : World} {n : Nat} {cs : List Value} (h : BoxAt w n cs) (o : Nat) (u : Value) (ho : o < cs.length) : BoxAt (w.setCell ⟨n, o, none⟩ u) n (cs.set o u) := fun j v hv => by
  rw [List.getElem?_set] at hv
  refine ⟨?_, ?_⟩
  · split at hv
    · rename_i e
      subst e
      simp only [ho, if_true, Option.some.injEq] at hv
      subst hv
      exact World.cell?_setCell_same _ _ _ (h o _ (List.getElem?_eq_getElem ho)).1
    · rename_i e
      rw [World.cell?_setCell_other _ _ _ _ (by intro e2; exact e (congrArg Addr.off e2))]
      exact (h j v hv).1
  · rw [World.frozen?_setCell]
    split at hv
    · rename_i e
      subst e
      exact (h o _ (List.getElem?_eq_getElem ho)).2
    · exact (h j v hv).2
/-- a block of this element type -/
def IsTy (w : World) (b : Nat) (T : TypeId) : Prop := ∃ cur, w.heap[b]? = some (.cells cur T (0, 0))
theorem IsTy.block {w w' : World} {b : Nat} {T : TypeId} (h : IsTy w b T) (e : w'.heap[b]? = w.heap[b]?) : IsTy w' b T := by
  obtain ⟨cur, hc⟩ := h
  exact ⟨cur, e.trans hc⟩
theorem IsTy.setCell {w : World} {b : Nat} {T : TypeId} (h : IsTy w b T) (n o : Nat) (u : Value) : IsTy (w.setCell ⟨n, o, none⟩ u) b T := by
  obtain ⟨cur, hc⟩ := h
  by_cases e : b = n
  · subst e
    exact ⟨_, heap_setCell_same w b o cur _ u hc⟩
  · exact ⟨cur, (heap_setCell_other w ⟨n, o, none⟩ b u e).trans hc⟩
theorem IsTy.lt {w : World} {b : Nat} {T : TypeId} (h : IsTy w b T) : b < w.heap.size := by
  obtain ⟨cur, hc⟩ := h
  exact (Array.getElem?_eq_some_iff.1 hc).1
theorem IsTy.ne {w : World} {b c : Nat} {T U : TypeId} (h : IsTy w b T) (k : IsTy w c U) (hne : T ≠ U) : b ≠ c := by
  rintro rfl
  obtain ⟨cur, hc⟩ := h
  obtain ⟨cur', hc'⟩ := k
  rw [hc] at hc'
  cases hc'
  exact hne rfl
theorem OwnP.ty {w : World} {B : Nat} {v : Value} {l : List PA} (h : OwnP w B v l) {g : Nat} (hg : v.ownBlock = some g) : IsTy w g 33 := by
  rcases h.2 with ⟨rfl, _⟩ | ⟨g', cap, cur, rfl, _, hh, _⟩
  · cases hg
  · cases hg
    exact ⟨_, hh⟩
theorem BoxAt.block {w w' : World} {n : Nat} {cs : List Value} (h : BoxAt w n cs) (e : w'.heap[n]? = w.heap[n]?) : BoxAt w' n cs := fun o v ho =>
  ⟨(World.cell?_of_block (w := w) (a := ⟨n, o, none⟩) e).trans (h o v ho).1, (World.frozen?_of_block (w := w) (a := ⟨n, o, none⟩) e).trans (h o v ho).2⟩
theorem OwnP.block {w w' : World} {B : Nat} {v : Value} {l : List PA} (h : OwnP w B v l) (e : ∀ g, v.ownBlock = some g → w'.heap[g]? = w.heap[g]?) : OwnP w' B v l := by
  refine ⟨h.1, ?_⟩
  rcases h.2 with hn | ⟨g, cap, cur, rfl, hb, hg, rest⟩
  · exact .inl hn
  · exact .inr ⟨g, cap, cur, rfl, hb, (e g rfl).trans hg, rest⟩
/-- the failed vehicles of a position of the plan lie in a block of their own -/
def FBx (wr : World) (B : Nat) (sa : Option Addr) (g : Gm) (x : PA) : Prop := x.2.1 = sa ∧ x.1.starts = g.starts ∧ ∃ F, x.2.2.2.1 = some ⟨F, 0, none⟩ ∧ B ≤ F ∧ IsTy wr F 4 ∧ BoxAt wr F (x.1.failed.map Value.bool)
theorem FBx.block {wr w' : World} {B : Nat} {sa : Option Addr} {g : Gm} {x : PA} (h : FBx wr B sa g x) (e : ∀ F, IsTy wr F 4 → x.2.2.2.1 = some ⟨F, 0, none⟩ → w'.heap[F]? = wr.heap[F]?) : FBx w' B sa g x := by
  obtain ⟨h1, h2, F, h3, h4, h5, h6⟩ := h
  exact ⟨h1, h2, F, h3, h4, h5.block (e F h5 h3), h6.block (e F h5 h3)⟩
theorem FBx.ps {wr : World} {B : Nat} {sa : Option Addr} {g : Gm} {x : PA} (h : FBx wr B sa g x) (hs : Ints wr sa g.starts) : PsAt wr x.1 x.2.1 x.2.2.2.1 := by
  obtain ⟨h1, h2, F, h3, _, _, h6⟩ := h
  refine ⟨by rw [h1, h2]; exact hs, fun j hj => ⟨F, 0, h3, ?_⟩⟩
  rw [Nat.zero_add]
  refine (h6 j _ ?_).1
  rw [List.getElem?_map, List.getElem?_eq_getElem hj]
  simp only [Option.map_some, bg, List.getD_eq_getElem?_getD, List.getElem?_eq_getElem hj]
  rfl
namespace JudgeLost
set_option maxRecDepth 100000 in
set_option maxHeartbeats 4000000 in
theorem all (g : Gm) (sa da : Option Addr) (sc dc : Nat) (w : World) (hG : GmAt w g sa da) :
    Calls Try.prog 7 #[gmV g sa sc da dc] w (RetB (.bool true) w) := by
  have HG := Lib.hid hG
  obtain ⟨ns, hns⟩ : ∃ n, n = g.starts.length := ⟨_, rfl⟩
  obtain ⟨nd, hnd⟩ : ∃ n, n = g.deps.length := ⟨_, rfl⟩
  obtain ⟨bu, hbu⟩ : ∃ n, n = g.budget := ⟨_, rfl⟩
  have HNS := Lib.hid hns
  have HND := Lib.hid hnd
  have HBU := Lib.hid hbu
  have HFEW := Lib.hid (show ∀ wy, Below w.heap.size w wy → Calls Try.prog 9 #[.agg #[.slice sa ns sc, .slice da nd dc, .int .i64 bu], .slice none 0 0] wy (RetB (.bool (fewB g [] 300)) wy) from fun wy hy => by
    have h := few_any g sa da none sc dc 0 [] (fun _ => undef) wy (hG.later hy) (fun j hj => absurd hj (by simp))
    unfold gmV at h
    rw [← hns, ← hnd, ← hbu] at h
    exact h)
  have HVAL := Lib.hid (show ∀ wy, Below w.heap.size w wy → GmFew g → Calls Try.prog 16 #[.agg #[.slice sa ns sc, .slice da nd dc, .int .i64 bu]] wy (RetB (.bool (vgB g)) wy) from fun wy hy hF => by
    have h := rvalid_any g sa da sc dc wy (hG.later hy) hF
    unfold gmV at h
    rw [← hns, ← hnd, ← hbu] at h
    exact h)
  unfold gmV
  rw [← hns, ← hnd, ← hbu]
  clear hG hns hnd hbu
  go_enter Try.func7, Try.ntmps7
  go_wp2_with fail
  obtain ⟨wx, X, hX, hbx, hBX, hwx⟩ : ∃ wx X, X = w.heap.size ∧ Below w.heap.size w wx ∧ BoxAt wx X [.slice sa ns sc, .slice da nd dc, .int .i64 bu] ∧ wx = w.alloc (.cells #[.slice sa ns sc, .slice da nd dc, .int .i64 bu] 25) := ⟨_, _, rfl, (Below.refl _ _).alloc (Nat.le_refl _) _, BoxAt.new w _ _, rfl⟩
  rw [← hwx, ← hX]
  have hXl : X < wx.heap.size := by rw [hwx, World.size_alloc]; omega
  clear hwx hX
  refine Calls.mono (head_any _) ?_
  rintro e w1 ⟨rfl, hb1⟩
  have HB1 := Lib.hid (hbx.trans (hb1.mono hbx.size))
  have hBX1 := hBX.later hb1
  have HBX1 := Lib.hid hBX1
  have hX1 : X < w1.heap.size := Nat.lt_of_lt_of_le hXl hb1.size
  have b0 := (hBX1 0 _ rfl).1
  have b1 := (hBX1 1 _ rfl).1
  have b2 := (hBX1 2 _ rfl).1
  clear hb1 hbx hBX hXl hBX1
  go_wp2_with fail
  refine Calls.mono (HFEW.out w1 HB1.out) ?_
  rintro e w2 ⟨rfl, hb2⟩
  have HB2 := Lib.hid (HB1.out.trans (hb2.mono HB1.out.size))
  have HBX2 := Lib.hid (HBX1.out.later hb2)
  have hX2 : X < w2.heap.size := Nat.lt_of_lt_of_le hX1 hb2.size
  have c0 := cell_later hb2 b0
  have c1 := cell_later hb2 b1
  have c2 := cell_later hb2 b2
  clear hb2 b0 b1 b2
  by_cases hf : FewOk g [] 300
  case neg =>
    rw [fewB_no hf]
    clear hf
    go_wp2_with fail
    all_goals (go_ret; exact retB rfl HB2.out)
  rw [fewB_yes hf]
  have HF := Lib.hid hf
  clear hf
  go_wp2_with fail
  refine Calls.mono (HVAL.out w2 HB2.out HF.out.gm) ?_
  rintro e w3 ⟨rfl, hb3⟩
  have HB3 := Lib.hid (HB2.out.trans (hb3.mono HB2.out.size))
  have HBX3 := Lib.hid (HBX2.out.later hb3)
  have hX3 : X < w3.heap.size := Nat.lt_of_lt_of_le hX2 hb3.size
  have b0 := cell_later hb3 c0
  have b1 := cell_later hb3 c1
  have b2 := cell_later hb3 c2
  clear hb3 c0 c1 c2
  by_cases hv : VG g
  case neg =>
    rw [vgB_false hv]
    clear hv
    go_wp2_with fail
    all_goals (go_ret; exact retB rfl HB3.out)
  rw [vgB_true hv]
  have HV := Lib.hid hv
  clear hv
  by_cases h4 : 4 < nd
  · have d1 : decide ((4 : Int) < (nd : Int)) = true := decide_eq_true (by omega)
    clear h4
    go_wp2_with fail
    all_goals (go_ret; exact retB rfl HB3.out)
  have d1 : decide ((4 : Int) < (nd : Int)) = false := decide_eq_false (by omega)
  by_cases h3 : 3 < ns
  · have d2 : decide ((3 : Int) < (ns : Int)) = true := decide_eq_true (by omega)
    clear h4 h3
    go_wp2_with fail
    all_goals (go_ret; exact retB rfl HB3.out)
  have d2 : decide ((3 : Int) < (ns : Int)) = false := decide_eq_false (by omega)
  have hnd : nd ≤ 4 := by omega
  have hns : ns ≤ 3 := by omega
  have HBUD := Lib.hid (show 0 ≤ bu ∧ bu ≤ 3 from ⟨by rw [HBU.out]; exact HV.out.2.2.1, by rw [HBU.out]; exact HV.out.2.2.2.1⟩)
  obtain ⟨P, hP⟩ : ∃ P, P = 2 ^ ns := ⟨_, rfl⟩
  have hP8 : P ≤ 8 := by
    have : ns = 0 ∨ ns = 1 ∨ ns = 2 ∨ ns = 3 := by omega
    rw [hP]
    rcases this with h | h | h | h <;> rw [h] <;> decide
  have hsh : IntKind.i64.wrap ((2 : Int) ^ ns) = (P : Int) := by
    rw [show ((2 : Int) ^ ns) = ((2 ^ ns : Nat) : Int) from (Int.natCast_pow 2 ns).symm, ← hP]
    exact IntWalk.i64_in _ (by omega)
  have HPP := Lib.hid hP
  have hmk := mk_bools ns (by omega)
  clear h4 h3 hP d1 d2
  go_wp2_with fail
  have HACC := Lib.hid (show ∀ (pl : List PA) (a : Option Addr) (c : Nat) (wy : World) (b : Int), Below w3.heap.size w3 wy → PlanAt wy a (pl.map (·.1)) (pvL pl) → pl.map (·.1) = planQ g nd nd → Calls Try.prog 10 #[.agg #[.slice sa ns sc, .slice da nd dc, .int .i64 bu], .slice a pl.length c, .int .i64 b] wy (RetB (.bool (accB g (planQ g nd nd) b)) wy) from fun pl a c wy b hb hpl hq => by
    have h := accept_any g sa da a sc dc c (pl.map (·.1)) (pvL pl) b wy (HG.out.later (HB3.out.trans (hb.mono HB3.out.size))) HF.out.gm hpl (fun x hx => by
      rw [hq] at hx
      obtain ⟨t, k, ht, hk, rfl⟩ := mem_planQ.1 hx
      have h1 := HBUD.out
      have h2 := HBU.out
      have h3 := cntB_le (flB g.starts.length k)
      rw [flB_len] at h3
      have h4 := HNS.out
      refine ⟨⟨by show (-9223372036854775808 : Int) ≤ (t : Int); omega, by show (t : Int) < 9223372036854775808; omega⟩, ⟨by show (-9223372036854775808 : Int) ≤ g.budget - (cntB _ : Int); omega, by show g.budget - (cntB _ : Int) < 9223372036854775808; omega⟩, fun j => ?_, ⟨by show (-9223372036854775808 : Int) ≤ (nd : Int) - (t : Int); omega, by show (nd : Int) - (t : Int) < 9223372036854775808; omega⟩⟩
      show inI (ig g.starts j)
      by_cases hj : j < g.starts.length
      · have := HV.out.2.2.2.2.1 j hj
        exact ⟨by omega, by omega⟩
      · have e : ig g.starts j = 0 := by
          unfold ig
          rw [List.getD_eq_getElem?_getD, List.getElem?_eq_none (by omega)]
          rfl
        rw [e]
        exact ⟨by omega, by omega⟩) (by
      rw [hq, planQ_len, ← HNS.out, ← HPP.out]
      have := Nat.mul_le_mul hnd hP8
      omega)
    unfold gmV at h
    rw [← HNS.out, ← HND.out, ← HBU.out, List.length_map, hq] at h
    exact h)
  go_loopg [5, 6] (nd + 1) (fun k v5 v6 wr => ∃ (t : Nat) (l : List PA), t ≤ nd ∧ k + t = nd + 1 ∧ v6 = .int .i64 t ∧ Below w3.heap.size w3 wr ∧ OwnP wr w3.heap.size v5 l ∧ l.map (·.1) = planQ g nd t ∧ ∀ x ∈ l, FBx wr w3.heap.size sa g x)
  case atStart => exact ⟨0, [], by omega, by omega, rfl, Below.refl _ _, own_nil _ _, rfl, fun x hx => (by cases hx)⟩
  case round =>
    obtain ⟨t, l, ht, hkt, rfl, hbr, hown, hmap, hfb⟩ := hrel
    have HBR := Lib.hid hbr
    have HOW := Lib.hid hown
    have HMAP := Lib.hid hmap
    have HFB := Lib.hid hfb
    have z0 := cell_later hbr b0
    have z1 := cell_later hbr b1
    have z2 := cell_later hbr b2
    by_cases hlt : t < nd
    · have n1 : (t : Int) < (nd : Int) := by omega
      have n0 : (0 : Int) ≤ (t : Int) := by omega
      clear hown hmap hfb
      go_wp2_with fail
      go_loopg [5, 7] (P + 1) (fun k v5 v7 wr => ∃ (b : Nat) (l : List PA), b ≤ P ∧ k + b = P + 1 ∧ v7 = .int .i64 b ∧ Below w3.heap.size w3 wr ∧ OwnP wr w3.heap.size v5 l ∧ l.map (·.1) = planQ g nd t ++ rowQ g nd t b ∧ ∀ x ∈ l, FBx wr w3.heap.size sa g x)
      case atStart => exact ⟨0, l, by omega, by omega, rfl, HBR.out, HOW.out, by simp [rowQ, HMAP.out], HFB.out⟩
      case round =>
        clear HOW HMAP HFB HBR
        obtain ⟨b, l, hb, hkb, rfl, hbr, hown, hmap, hfb⟩ := hrel
        have HBR := Lib.hid hbr
        have HOW := Lib.hid hown
        have HMAP := Lib.hid hmap
        have HFB := Lib.hid hfb
        have HOWL := Lib.hid (show ∀ g', u5.ownBlock = some g' → w3.heap.size ≤ g' ∧ g' < wr.heap.size from World.ownsRow.lt hown)
        have y0 := cell_later hbr b0
        have y1 := cell_later hbr b1
        have y2 := cell_later hbr b2
        have hlr := hbr.size
        clear hown hmap hfb hbr z0 z1 z2
        by_cases hltb : b < P
        · have m1 : (b : Int) < (P : Int) := by omega
          have m0 : (0 : Int) ≤ (b : Int) := by omega
          go_wp2_with fail
          obtain ⟨wM, F, hF, hbM, hTY, hBX, hwM⟩ : ∃ wM F, F = wr.heap.size ∧ Below wr.heap.size wr wM ∧ IsTy wM F 4 ∧ BoxAt wM F ((List.replicate ns false).map Value.bool) ∧ wM = wr.alloc (.cells (Array.replicate ns (Value.bool false)) 4) := ⟨_, _, rfl, (Below.refl _ _).alloc (Nat.le_refl _) _, ⟨_, heap_alloc_new wr _⟩, by
            have h := BoxAt.new wr (List.replicate ns (Value.bool false)) 4
            rw [List.toArray_replicate] at h
            rw [List.map_replicate]
            exact h, rfl⟩
          rw [← hwM, ← hF]
          have HFE := Lib.hid hF
          have hXF : ¬ X = F := by omega
          have hlF : F < wM.heap.size := hTY.lt
          have HBM := Lib.hid hbM
          have HTY := Lib.hid hTY
          have HBX := Lib.hid hBX
          have x0 := cell_later hbM y0
          have x1 := cell_later hbM y1
          have x2 := cell_later hbM y2
          have HCW := Lib.hid (show ∀ w', Chg (fun k => k = F) wM w' → OwnP w' w3.heap.size u5 l ∧ (∀ x ∈ l, FBx w' w3.heap.size sa g x) ∧ Below w3.heap.size w3 w' from fun w' hc => by
            refine ⟨(HOW.out.later hbM).block fun g' hg' => hc.block g' (by have := (HOWL.out g' hg').2; have := hbM.size; omega) (by have := (HOWL.out g' hg').2; omega), fun x hx => ?_, (HBR.out.trans (hbM.mono HBR.out.size)).trans (hc.below (HBR.out.trans (hbM.mono HBR.out.size)).size fun k hk => by have := HBR.out.size; omega)⟩
            refine ((HFB.out x hx).block fun F' hF' _ => hbM.block F' hF'.lt).block fun F' hF' e => hc.block F' hF'.lt ?_
            obtain ⟨_, _, F2, e2, _, h5, _⟩ := HFB.out x hx
            rw [e2] at e
            cases e
            have := h5.lt
            omega)
          clear hwM hF hbM hTY hBX
          go_loopg [9, 10] (ns + 1) (fun k v9 v10 wq => ∃ v, v ≤ ns ∧ k + v = ns + 1 ∧ v10 = .int .i64 v ∧ v9 = .int .i64 (cntB (flB v b)) ∧ Chg (fun k => k = F) wM wq ∧ IsTy wq F 4 ∧ BoxAt wq F ((flB v b ++ List.replicate (ns - v) false).map Value.bool))
          case atStart => exact ⟨0, by omega, by omega, rfl, rfl, Chg.refl _ _, HTY.out, by simpa [flB] using HBX.out⟩
          case round =>
            obtain ⟨v, hv, hkv, rfl, rfl, hch, hty, hbx⟩ := hrel
            have HCH := Lib.hid hch
            have HTYQ := Lib.hid hty
            have HBXQ := Lib.hid hbx
            have w0 := hch.cell x0 hXF
            have w1c := hch.cell x1 hXF
            have w2c := hch.cell x2 hXF
            by_cases hltv : v < ns
            · have hvl : v < ((flB v b ++ List.replicate (ns - v) false).map Value.bool).length := by simp [flB_len]; omega
              have hcv := (hbx v _ (List.getElem?_eq_getElem hvl)).1
              have hfv := (hbx v _ (List.getElem?_eq_getElem hvl)).2
              obtain ⟨uv, huv⟩ : ∃ u, u = ((flB v b ++ List.replicate (ns - v) false).map Value.bool)[v] := ⟨_, rfl⟩
              rw [← huv] at hcv
              have hcl : cntB (flB v b) ≤ 3 := by have := cntB_le (flB v b); rw [flB_len] at this; omega
              have hcs := cntB_succ v b
              obtain ⟨cn, hcn⟩ : ∃ cn, cn = cntB (flB v b) := ⟨_, rfl⟩
              rw [← hcn] at hcl hcs ⊢
              have HCS := Lib.hid hcs
              have hset : ((flB v b ++ List.replicate (ns - v) false).map Value.bool).set v (.bool (fbit b v)) = (flB (v + 1) b ++ List.replicate (ns - (v + 1)) false).map Value.bool := by
                rw [← List.map_set, flB_succ, List.set_append_right _ _ (by rw [flB_len]; exact Nat.le_refl _), flB_len, Nat.sub_self, show ns - v = (ns - (v + 1)) + 1 by omega, List.replicate_succ, List.set_cons_zero, List.append_assoc]
                rfl
              have hput := hbx.put v (.bool (fbit b v)) hvl
              rw [hset] at hput
              have HPUT := Lib.hid hput
              have HCHP := Lib.hid (show Chg (fun k => k = F) wM (wr.setCell ⟨F, v, none⟩ (.bool (fbit b v))) from hch.setCell (p := ⟨F, v, none⟩) (fun _ => rfl) _)
              have HTYP := Lib.hid (hty.setCell F v (.bool (fbit b v)))
              have hand : bits .and .i64 ((b : Int) / 2 ^ v) 1 = ((b / 2 ^ v % 2 : Nat) : Int) := by rw [and_one]; norm_cast
              have e1 : (v : Int) < (ns : Int) := by omega
              have e0 : (0 : Int) ≤ (v : Int) := by omega
              clear hch hty hbx huv hcn hcs hset hput hvl
              cases hfb : fbit b v
              · have h0 : b / 2 ^ v % 2 = 0 := by
                  have := of_decide_eq_false hfb
                  omega
                rw [h0] at hand
                rw [hfb] at HPUT HCHP HTYP HCS
                clear hfb h0
                go_wp2_with fail
                go_roundg (ns - v)
                case measure => omega
                case rel => exact ⟨v + 1, by omega, by omega, by go_num, by rw [HCS.out]; rfl, HCHP.out, HTYP.out, HPUT.out⟩
              · have h0 : b / 2 ^ v % 2 = 1 := of_decide_eq_true hfb
                rw [h0] at hand
                rw [hfb] at HPUT HCHP HTYP HCS
                clear hfb h0
                go_wp2_with fail
                go_roundg (ns - v)
                case measure => omega
                case rel => exact ⟨v + 1, by omega, by omega, by go_num, by rw [HCS.out]; simp, HCHP.out, HTYP.out, HPUT.out⟩
            · obtain rfl : v = ns := by omega
              obtain ⟨hoW, hfW, hbW⟩ := HCW.out wr hch
              rw [Nat.sub_self, List.replicate_zero, List.append_nil] at hbx
              have hcl : cntB (flB v b) ≤ 3 := by have := cntB_le (flB v b); rw [flB_len] at this; omega
              obtain ⟨cn, hcn⟩ : ∃ cn, cn = cntB (flB v b) := ⟨_, rfl⟩
              rw [← hcn] at hcl ⊢
              obtain ⟨hbu0, hbu3⟩ := HBUD.out
              obtain ⟨x, hx⟩ : ∃ x : PA, x = (lostQ g nd t b, (sa, sc, some ⟨F, 0, none⟩, v)) := ⟨_, rfl⟩
              have hcs : psCs x = [.int .i64 t, .slice sa v sc, .slice (some ⟨F, 0, none⟩) v v, .int .i64 (bu - cn), .int .i64 (-1), .int .i64 ((nd : Int) - t)] := by
                rw [hx, HBU.out, hcn]
                show [Value.int .i64 (t : Int), Value.slice sa g.starts.length sc, Value.slice (some ⟨F, 0, none⟩) (flB g.starts.length b).length v, Value.int .i64 (g.budget - (cntB (flB g.starts.length b) : Int)), Value.int .i64 (-1), Value.int .i64 ((nd : Int) - t)] = _
                rw [flB_len, ← HNS.out]
              have hxF : FBx wr w3.heap.size sa g x := by
                rw [hx]
                refine ⟨rfl, rfl, F, rfl, by have := HBR.out.size; have := HFE.out; omega, hty, ?_⟩
                show BoxAt wr F ((flB g.starts.length b).map Value.bool)
                rw [← HNS.out]
                exact hbx
              have hx1 : x.1 = lostQ g nd t b := by rw [hx]
              have HX1 := Lib.hid hx1
              have hsW := hbW.size
              have hbA : Below wr.heap.size wr (wr.alloc (.cells #[.int .i64 t, .slice sa v sc, .slice (some ⟨F, 0, none⟩) v v, .int .i64 (bu - cn), .int .i64 (-1), .int .i64 ((nd : Int) - t)] 33)) := (Below.refl _ _).alloc (Nat.le_refl _) _
              have HOA := Lib.hid (hoW.later hbA)
              have HFA := Lib.hid (show ∀ y ∈ l ++ [x], FBx (wr.alloc (.cells #[.int .i64 t, .slice sa v sc, .slice (some ⟨F, 0, none⟩) v v, .int .i64 (bu - cn), .int .i64 (-1), .int .i64 ((nd : Int) - t)] 33)) w3.heap.size sa g y from fun y hy => by
                have h1 : FBx wr w3.heap.size sa g y := by
                  rcases List.mem_append.1 hy with hy | hy
                  · exact hfW y hy
                  · rw [List.mem_singleton.1 hy]
                    exact hxF
                exact h1.block fun F' hF' _ => hbA.block F' hF'.lt)
              have HBA := Lib.hid (hbW.trans (hbA.mono hbW.size))
              have HCE := Lib.hid (show ∀ j u, ([x].flatMap psCs)[j]? = some u → (wr.alloc (.cells #[.int .i64 t, .slice sa v sc, .slice (some ⟨F, 0, none⟩) v v, .int .i64 (bu - cn), .int .i64 (-1), .int .i64 ((nd : Int) - t)] 33)).cell? ⟨wr.heap.size, 0 + j, none⟩ = some u from fun j u hu => by
                rw [List.flatMap_singleton, hcs] at hu
                rw [Nat.zero_add]
                exact (BoxAt.new wr _ 33 j u hu).1)
              have hll : l.length ≤ 1000 := by
                have h := congrArg List.length HMAP.out
                rw [List.length_map, List.length_append, planQ_len, rowQ_len, ← HNS.out, ← HPP.out] at h
                have := Nat.mul_le_mul (show t ≤ 4 by omega) hP8
                omega
              have hwn : IntKind.i64.wrap ((nd : Int) - (t : Int)) = (nd : Int) - t := IntWalk.i64_in _ (by omega)
              have hwb : IntKind.i64.wrap (bu - (cn : Int)) = bu - cn := IntWalk.i64_in _ (by omega)
              clear hch hty hbx hcn hx hcs hxF hx1 hoW hfW hbW hbA
              go_wp2_with (at_builtin; go_loud (refine append_poss _ rfl _ _ rfl w3.heap.size u5 l [x] rfl HOA.out _ _ rfl (fun j u hu => ⟨_, 0, rfl, HCE.out j u hu⟩) (by intro h; cases h) (by simp; omega) (by simp; omega) ?_; intro v2 w2 ho2 hg2 hn2))
              have hr2 : ∀ g', u5.ownBlock = some g' → w3.heap.size ≤ g' := fun g' hg' => (World.ownsRow.lt HOA.out g' hg').1
              go_roundg (P - b)
              case measure => omega
              case rel => exact ⟨b + 1, l ++ [x], by omega, by omega, by go_num, HBA.out.grown hg2 HBA.out.size hr2, ho2, by rw [List.map_append, HMAP.out, rowQ_succ, List.append_assoc]; simp [HX1.out], fun y hy => (HFA.out y hy).block fun F' hF' _ => hg2.block F' hF'.lt fun e => absurd rfl ((HOA.out.ty e.symm).ne hF' (by decide))⟩
        · obtain rfl : b = P := by omega
          go_wp2_with fail
          go_roundg (nd - t)
          case measure => omega
          case rel => exact ⟨t + 1, l, by omega, by omega, by go_num, HBR.out, HOW.out, by rw [HMAP.out, planQ_succ, ← HNS.out, ← HPP.out], HFB.out⟩
    · obtain rfl : t = nd := by omega
      have hints := HG.out.s.later (HB3.out.trans (hbr.mono HB3.out.size))
      obtain ⟨a, c, rfl, _, hpl⟩ := hown.plan (fun x hx => (hfb x hx).ps hints)
      have HPL := Lib.hid hpl
      have hA := HACC.out l a c
      rw [HMAP.out, HND.out] at hA
      have hA1 := Lib.hid (show ∀ wy, Below w3.heap.size w3 wy → PlanAt wy a (l.map (·.1)) (pvL l) → Calls Try.prog 10 #[.agg #[.slice sa ns sc, .slice da t dc, .int .i64 bu], .slice a l.length c, .int .i64 t] wy (RetB (.bool true) wy) from fun wy h1 h2 => by
        have h := HACC.out l a c wy t h1 h2 HMAP.out
        rw [HND.out, accB_true (lost_acc HV.out), ← HND.out] at h
        exact h)
      have hA2 := Lib.hid (show ∀ wy, Below w3.heap.size w3 wy → PlanAt wy a (l.map (·.1)) (pvL l) → Calls Try.prog 10 #[.agg #[.slice sa ns sc, .slice da t dc, .int .i64 bu], .slice a l.length c, .int .i64 ((t : Int) - 1)] wy (RetB (.bool false) wy) from fun wy h1 h2 => by
        have h := HACC.out l a c wy ((t : Int) - 1) h1 h2 HMAP.out
        rw [HND.out, accB_false lost_not, ← HND.out] at h
        exact h)
      have hwt : IntKind.i64.wrap ((t : Int) - 1) = (t : Int) - 1 := IntWalk.i64_in _ (by omega)
      clear hown hmap hfb hints hpl hA
      go_wp2_with fail
      refine Calls.mono (hA1.out _ hbr HPL.out) ?_
      rintro e w5 ⟨rfl, hb5⟩
      have HB5 := Lib.hid (hbr.trans (hb5.mono hbr.size))
      have HPL5 := Lib.hid (HPL.out.later hb5)
      have q0 := cell_later hb5 z0
      have q1 := cell_later hb5 z1
      have q2 := cell_later hb5 z2
      clear hb5 hbr z0 z1 z2
      go_wp2_with fail
      refine Calls.mono (hA2.out _ HB5.out HPL5.out) ?_
      rintro e w6 ⟨rfl, hb6⟩
      have HB6 := Lib.hid (HB3.out.trans ((HB5.out.trans (hb6.mono HB5.out.size)).mono HB3.out.size))
      clear hb6
      go_wp2_with fail
      go_ret
      exact retB rfl HB6.out
theorem walk (W : World) (g : Gm) (ga : Option Addr) (gc : Nat) (gd : Option Addr) (ge : Nat) (gG : GmAt W g ga gd) (gB : GmBig g) :
    Calls Try.prog 7 #[gmV g ga gc gd ge] W (RetB (.bool true) W) := all g ga gd gc ge W gG
end JudgeLost
namespace JudgeLost
set_option maxRecDepth 100000 in
theorem entry (H : Type) (enc : TypeId × Value → H) (W : World) (base : Nat) (args : Array Value) (ds : List (DataW H)) (p : List MemPlace)
    (hval : ∀ (j : Nat) t v, Try.f7.params[j]? = some t → args[j]? = some v → Value.okWide Try.prog W .any base t v)
    (hA : DataW.TrodAll enc Try.prog W 0 (fun _ => true) true Try.f7.params.toList args.toList ds p) :
    Calls Try.prog 7 args W (RetB (.bool true) W) := by
  rw [Try.params7] at hA hval
  obtain ⟨v0, vs0, d0, ds0, p0, q0, hargs, rfl, rfl, h0, r0⟩ := trodAll_cons hA
  obtain ⟨rfl, rfl, rfl⟩ := trodAll_nil r0
  obtain rfl : args = #[v0] := by cases args; simp_all
  obtain ⟨g, ga, gc, gd, ge, rfl, gG, gB⟩ := open_game (hval 0 25 v0 rfl rfl) h0
  exact walk W g ga gc gd ge gG gB
end JudgeLost
/-! The step from the walk to the row of JudgeLost. -/
namespace JudgeLost
set_option maxRecDepth 100000 in
theorem lifted (os : Os) (started : os.Started) (H : Type) (enc : TypeId × Value → H) :
    ReturnsInHanded {} Try.checked os 7 .any (Rows.judgeLostSpec.pre6 enc Try.prog Try.f7 Rows.judgeLostRow.domain false) (Rows.judgeLostSpec.post enc Try.prog Try.f7 false true false false) := by
  refine returnsInHanded_of_change (C := Try.checked) own started (by kernel_rfl) Try.func7
    (ChangeSpec.witness6 (enc := enc) (C := Try.checked) false ⟨#[], #[.agg #[.slice none 0 0, .slice none 0 0, .int .i64 0]], []⟩ 8 (by kernel_rfl) (by kernel_rfl) (by kernel_rfl) (by kernel_rfl)) ?_
  intro W base args ds gs before hval0 hW hcnd _
  have hval : ∀ (j : Nat) t v, Try.f7.params[j]? = some t → args[j]? = some v → Value.okWide Try.prog W .any base t v := hval0
  have hW' := hW
  obtain ⟨p, q, hA0, hV, rfl, hfz, hnd⟩ := hW
  have hA : DataW.TrodAll enc Try.prog W 0 (fun _ => true) true Try.f7.params.toList args.toList ds p := hA0
  obtain ⟨rfl, rfl⟩ := trodVars_none hV
  have hlen := trodAll_len _ _ _ _ hA
  obtain ⟨d0, rfl⟩ : ∃ d0, ds = [d0] := by
    rw [Try.params7] at hlen
    exact list1 hlen
  refine (entry H enc W base args [d0] p hval hA).mono fun e W' ⟨he, bel⟩ => ?_
  subst he
  exact ⟨_, rfl, _, _, _, [], _, [], hW', trodAll_mk1 (shut_bool Try.underlying4 _), readback laidOut _ _ _ _ (by rw [Try.params7]; exact of_decide_eq_true (by kernel_rfl)) hA bel, rfl, bel.frame _, fun h => by cases h⟩

theorem over : Rows.judgeLostRow.holds Try.pinned (OpenSpec.ofChange Rows.judgeLostSpec) :=
  OpenClaim.holds_of_wide 7 Try.f7 rfl rfl rfl rfl rfl rfl rfl ⟨rfl, rfl, rfl, rfl, rfl⟩ rfl rfl rfl rfl rfl (by kernel_rfl) Try.func7 (by kernel_rfl)
    (of_decide_eq_true (by kernel_rfl)) (by unfold Func.isWrapper; first | (rw [if_pos (by decide +kernel)]; kernel_rfl) | (rw [if_neg (by decide +kernel)]; exact ⟨rfl, rfl⟩))
    (fun os started H enc _ => lifted os started H enc)

/-- THE STATEMENT -/
theorem proved : Rows.JudgeLostSaid := over
end JudgeLost
#print axioms JudgeLost.proved
end Go.Proofs.Ytghdfoolieagfaa
