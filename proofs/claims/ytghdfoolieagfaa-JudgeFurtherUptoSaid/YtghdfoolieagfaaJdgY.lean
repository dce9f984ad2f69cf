

/- The judge's laws: further positions. -/
import Derived.Test.YtghdfoolieagfaaJdgX
namespace Go.Proofs.Ytghdfoolieagfaa
open Go.RowKit

theorem Rch.back {g : Gm} {plan more : List Pos} {b : Int} (h : Acc g plan b) (hd : g.deps ≠ []) (hk : ∀ s p, posAt plan s = some p → posAt more s = some p) {s : St} (hr : Rch g more s) : Rch g plan s := by
  induction hr with
  | first hx => exact .first hx
  | next _ hp ht hx ih =>
    obtain ⟨q, hq, _⟩ := (h.2.2 hd).2 _ ih
    have := hk _ _ hq
    rw [hp] at this
    cases this
    exact .next ih hq ht hx
theorem Acc.further {g : Gm} {plan more : List Pos} {b : Int} (h : Acc g plan b) (hk : ∀ s p, posAt plan s = some p → posAt more s = some p) : Acc g more b := by
  have hok : ∀ {x c}, okAt plan x c → okAt more x c := fun ⟨p, h1, h2⟩ => ⟨p, hk _ _ h1, h2⟩
  refine ⟨h.1, h.2.1, fun hd => ⟨fun x hx => hok ((h.2.2 hd).1 x hx), fun s hs => ?_⟩⟩
  obtain ⟨p, h1, h2, h3, h4⟩ := (h.2.2 hd).2 s (Rch.back h hd hk hs)
  exact ⟨p, hk _ _ h1, h2, h3, fun ht x hx => hok (h4 ht x hx)⟩
theorem posAt_append {plan more : List Pos} {s : St} {p : Pos} (h : posAt plan s = some p) : posAt (plan ++ more) s = some p := by
  unfold posAt at h ⊢
  rw [List.find?_append, h]
  rfl
theorem own_empty (w : World) (B : Nat) (hB : B ≤ w.heap.size) : OwnP (w.alloc (.cells #[] 33)) B (.slice (some ⟨w.heap.size, 0, none⟩) 0 0) [] := by
  have := World.ownsRow_lit (base := B) (e := 33) (size := 6) w #[] 0 hB (by unfold maxLen; omega) rfl
  unfold OwnP
  simpa using this
def CellsP (w : World) (a : Option Addr) (l : List PA) : Prop := ∀ j u, (l.flatMap psCs)[j]? = some u → ∃ b off, a = some ⟨b, off, none⟩ ∧ w.cell? ⟨b, off + j, none⟩ = some u
theorem CellsP.later {w w1 : World} {a : Option Addr} {l : List PA} (h : CellsP w a l) (hb : Below w.heap.size w w1) : CellsP w1 a l := fun j u hu => by
  obtain ⟨b, off, e, hc⟩ := h j u hu
  exact ⟨b, off, e, cell_later hb hc⟩
theorem PlanAt.pas {w : World} {a : Option Addr} {plan : List Pos} {pv : Nat → Value} (h : PlanAt w a plan pv) : ∃ l : List PA, l.map (·.1) = plan ∧ PsAll w l ∧ CellsP w a l := by
  obtain ⟨l, h1, h2, h3⟩ := h.list
  refine ⟨l, h1, h2, fun j u hu => ?_⟩
  have hj : 0 < plan.length := by
    rw [← h1, List.length_map]
    have := (List.getElem?_eq_some_iff.1 hu).1
    rw [psCs_len] at this
    omega
  obtain ⟨b, off, _, _, _, _, ha, _⟩ := h 0 hj
  exact ⟨b, off, ha, h3 b off ha j u hu⟩
set_option maxRecDepth 100000 in
set_option maxHeartbeats 4000000 in
theorem further_any (g : Gm) (sa da pa ma : Option Addr) (sc dc pc mc : Nat) (L M : List PA) (pv : Nat → Value) (bound : Int) (w : World) (hG : GmAt w g sa da) (hP : PlanAt w pa (L.map (·.1)) pv) (hpi : ∀ x ∈ L, PosIn x.1) (hmi : ∀ x ∈ M, PosIn x.1)
    (hL : PsAll w L) (hM : PsAll w M) (cL : CellsP w pa L) (cM : CellsP w ma M) (nL : pa = none → pc = 0) (nM : ma = none → mc = 0) (bL : L.length ≤ 200000000) (bM : M.length ≤ 200000000) :
    Calls Try.prog 6 #[gmV g sa sc da dc, .slice pa L.length pc, .slice ma M.length mc, .int .i64 bound] w (RetB (.bool true) w) := by
  have HG := Lib.hid hG
  have HP := Lib.hid hP
  have HPI := Lib.hid hpi
  have HMI := Lib.hid hmi
  have HL := Lib.hid hL
  have HM := Lib.hid hM
  have CL := Lib.hid cL
  have CM := Lib.hid cM
  have NL := Lib.hid nL
  have NM := Lib.hid nM
  clear hG hP hpi hmi hL hM cL cM nL nM
  go_enter Try.func6, Try.ntmps6
  go_wp2_with fail
  refine Calls.mono (head_any _) ?_
  rintro e w1 ⟨rfl, hb1⟩; have hs1 := hb1.size; (try simp at hs1)
  have x0 : w1.cell? ⟨w.heap.size, 0, none⟩ = some (.slice sa g.starts.length sc) := cell_later hb1 (by first | assumption | (simp [go_sem, *]; done) | exact cell_later' (by assumption) (by repeat (first | exact Below.refl _ _ | assumption | refine Below.drew ?_ | refine below_drewN ?_ _ | refine Below.alloc ?_ (by first | omega | (simp; done) | (simp; omega)) _ | refine Below.setCell ?_ (by first | omega | (simp; done) | (simp; omega)) _ | refine Below.trans ?_ (Below.mono (by assumption) (by first | omega | (simp; done) | (simp; omega))))))
  have x1 : w1.cell? ⟨w.heap.size, 1, none⟩ = some (.slice da g.deps.length dc) := cell_later hb1 (by first | assumption | (simp [go_sem, *]; done) | exact cell_later' (by assumption) (by repeat (first | exact Below.refl _ _ | assumption | refine Below.drew ?_ | refine below_drewN ?_ _ | refine Below.alloc ?_ (by first | omega | (simp; done) | (simp; omega)) _ | refine Below.setCell ?_ (by first | omega | (simp; done) | (simp; omega)) _ | refine Below.trans ?_ (Below.mono (by assumption) (by first | omega | (simp; done) | (simp; omega))))))
  have x2 : w1.cell? ⟨w.heap.size, 2, none⟩ = some (.int .i64 g.budget) := cell_later hb1 (by first | assumption | (simp [go_sem, *]; done) | exact cell_later' (by assumption) (by repeat (first | exact Below.refl _ _ | assumption | refine Below.drew ?_ | refine below_drewN ?_ _ | refine Below.alloc ?_ (by first | omega | (simp; done) | (simp; omega)) _ | refine Below.setCell ?_ (by first | omega | (simp; done) | (simp; omega)) _ | refine Below.trans ?_ (Below.mono (by assumption) (by first | omega | (simp; done) | (simp; omega))))))
  have hbw : Below w.heap.size w w1 := (by repeat (first | exact Below.refl _ _ | assumption | refine Below.drew ?_ | refine below_drewN ?_ _ | refine Below.alloc ?_ (by first | omega | (simp; done) | (simp; omega)) _ | refine Below.setCell ?_ (by first | omega | (simp; done) | (simp; omega)) _ | refine Below.trans ?_ (Below.mono (by assumption) (by first | omega | (simp; done) | (simp; omega)))))
  have lx : w.heap.size < w1.heap.size := by omega
  have HL1 := Lib.hid (HL.out.later hbw)
  have HM1 := Lib.hid (HM.out.later hbw)
  have CL1 := Lib.hid (CL.out.later hbw)
  have CM1 := Lib.hid (CM.out.later hbw)
  have HBW := Lib.hid hbw
  have HE := Lib.hid (show Below w1.heap.size w1 (w1.alloc (.cells #[] 33)) from (by repeat (first | exact Below.refl _ _ | assumption | refine Below.drew ?_ | refine below_drewN ?_ _ | refine Below.alloc ?_ (by first | omega | (simp; done) | (simp; omega)) _ | refine Below.setCell ?_ (by first | omega | (simp; done) | (simp; omega)) _ | refine Below.trans ?_ (Below.mono (by assumption) (by first | omega | (simp; done) | (simp; omega))))))
  clear hb1 hbw
  obtain ⟨K, hK⟩ : ∃ K, K = L ++ M := ⟨_, rfl⟩
  have HK := Lib.hid hK
  clear hK
  have HF := Lib.hid (show ∀ wx a c, GmAt wx g sa da → PlanAt wx a (K.map (·.1)) (pvL K) → Calls Try.prog 9 #[.agg #[.slice sa g.starts.length sc, .slice da g.deps.length dc, .int .i64 g.budget], .slice a K.length c] wx (RetB (.bool (fewB g (K.map (·.1)) 300)) wx) from fun wx a c h1 h2 => by
    have h := few_any g sa da a sc dc c (K.map (·.1)) (pvL K) wx h1 h2
    rw [List.length_map] at h
    exact h)
  go_wp2_with (at_builtin; first | go_loud ((refine append_poss _ rfl _ _ rfl w1.heap.size _ [] L rfl ?_ pa _ rfl ?_ ?_ ?_ ?_ ?_; (exact own_empty w1 w1.heap.size (Nat.le_refl _)); (exact CL1.out.later HE.out); (exact NL.out); (first | omega | (simp only [List.length_nil]; omega)); (first | exact HE.out.size | exact hb2.size)); intro v2 w2 ho2 hg2 hn2; have hb2 : Below w1.heap.size w1 w2 := HE.out.grown hg2 HE.out.size (fun b hb => (World.ownsRow.lt (own_empty w1 w1.heap.size (Nat.le_refl _)) b hb).1)) | go_loud ((refine append_poss _ rfl _ _ rfl w1.heap.size _ L M rfl ?_ ma _ rfl ?_ ?_ ?_ ?_ ?_; (exact ho2); (exact CM1.out.later hb2); (exact NM.out); (first | omega | (simp only [List.length_nil]; omega)); (first | exact HE.out.size | exact hb2.size)); intro v3 w3 ho3' hg3 hn3; have hb3 : Below w1.heap.size w1 w3 := hb2.grown hg3 hb2.size (fun b hb => (World.ownsRow.lt ho2 b hb).1); (have ho3 : OwnP w3 w1.heap.size v3 K := (by rw [HK.out]; exact ho3')); obtain ⟨a3, c3, rfl, hc3, hp3⟩ := ho3.plan (by intro x hx; rw [HK.out] at hx; exact (List.mem_append.1 hx).elim (HL1.out.later hb3 x) (HM1.out.later hb3 x)); have y0 := cell_later hb3 x0; have y1 := cell_later hb3 x1; have y2 := cell_later hb3 x2; have HP3 := Lib.hid hp3; have HO3 := Lib.hid ho3; clear ho3 ho3' hp3 hc3 hn2 hn3 ho2))
  have HW3 := Lib.hid (HBW.out.trans (hb3.mono HBW.out.size))
  have lz := hb3.size
  clear hg2 hg3 hb2 hb3 x0 x1 x2
  refine Calls.mono (HF.out _ _ _ (HG.out.later HW3.out) HP3.out) ?_
  rintro e w4 ⟨rfl, hb4⟩
  have HW4 := Lib.hid (HW3.out.trans (hb4.mono HW3.out.size))
  have HP4 := Lib.hid (HP3.out.later hb4)
  have l4 := hb4.size
  have z0 := cell_later hb4 y0
  have z1 := cell_later hb4 y1
  have z2 := cell_later hb4 y2
  clear hb4 y0 y1 y2
  by_cases hf : FewOk g (K.map (·.1)) 300
  · rw [fewB_yes hf]
    have hkl : K.length ≤ 300 := by have := hf.2.2.1; rwa [List.length_map] at this
    have HFF := Lib.hid hf
    clear hf
    by_cases h140 : L.length ≤ 140
    · have e1 : decide ((140 : Int) < (L.length : Int)) = false := by simp; omega
      have HA := Lib.hid (show ∀ wx, GmAt wx g sa da → PlanAt wx pa (L.map (·.1)) pv → Calls Try.prog 10 #[.agg #[.slice sa g.starts.length sc, .slice da g.deps.length dc, .int .i64 g.budget], .slice pa L.length pc, .int .i64 bound] wx (RetB (.bool (accB g (L.map (·.1)) bound)) wx) from fun wx h1 h2 => by
        have h := accept_any g sa da pa sc dc pc (L.map (·.1)) pv bound wx h1 HFF.out.gm h2 (fun q hq => by
          obtain ⟨x, hx, rfl⟩ := List.mem_map.1 hq
          exact HPI.out x hx) (by rw [List.length_map]; omega)
        rw [List.length_map] at h
        exact h)
      go_wp2_with fail
      refine Calls.mono (HA.out _ (HG.out.later HW4.out) (HP.out.later HW4.out)) ?_
      rintro e w5 ⟨rfl, hb5⟩
      have HW5 := Lib.hid (HW4.out.trans (hb5.mono HW4.out.size))
      have HP5 := Lib.hid (HP4.out.later hb5)
      have l5 := hb5.size
      have a0 := cell_later hb5 z0
      have a1 := cell_later hb5 z1
      have a2 := cell_later hb5 z2
      clear hb5 z0 z1 z2
      by_cases hA : Acc g (L.map (·.1)) bound
      · rw [accB_true hA]
        have hAK : Acc g (K.map (·.1)) bound := hA.further fun s q hq => by
          rw [HK.out, List.map_append]
          exact posAt_append hq
        obtain ⟨D, hD⟩ : ∃ D, D = L ++ L := ⟨_, rfl⟩
        have hAD : Acc g (D.map (·.1)) bound := hA.further fun s q hq => by
          rw [hD, List.map_append]
          exact posAt_append hq
        have HD := Lib.hid hD
        have hld : D.length ≤ 280 := by rw [hD, List.length_append]; omega
        clear hD hA
        have HAK := Lib.hid (show ∀ wx a c, GmAt wx g sa da → PlanAt wx a (K.map (·.1)) (pvL K) → Calls Try.prog 10 #[.agg #[.slice sa g.starts.length sc, .slice da g.deps.length dc, .int .i64 g.budget], .slice a K.length c, .int .i64 bound] wx (RetB (.bool true) wx) from fun wx a c h1 h2 => by
          have h := accept_any g sa da a sc dc c (K.map (·.1)) (pvL K) bound wx h1 HFF.out.gm h2 (fun q hq => by
            obtain ⟨x, hx, rfl⟩ := List.mem_map.1 hq
            rw [HK.out] at hx
            exact (List.mem_append.1 hx).elim (HPI.out x) (HMI.out x)) (by rw [List.length_map]; omega)
          rw [List.length_map, accB_true hAK] at h
          exact h)
        have HAD := Lib.hid (show ∀ wx a c, GmAt wx g sa da → PlanAt wx a (D.map (·.1)) (pvL D) → Calls Try.prog 10 #[.agg #[.slice sa g.starts.length sc, .slice da g.deps.length dc, .int .i64 g.budget], .slice a D.length c, .int .i64 bound] wx (RetB (.bool true) wx) from fun wx a c h1 h2 => by
          have h := accept_any g sa da a sc dc c (D.map (·.1)) (pvL D) bound wx h1 HFF.out.gm h2 (fun q hq => by
            obtain ⟨x, hx, rfl⟩ := List.mem_map.1 hq
            rw [HD.out] at hx
            exact (List.mem_append.1 hx).elim (HPI.out x) (HPI.out x)) (by rw [List.length_map]; omega)
          rw [List.length_map, accB_true hAD] at h
          exact h)
        clear hAK hAD
        have HE5 := Lib.hid (show Below w5.heap.size w5 (w5.alloc (.cells #[] 33)) from (by repeat (first | exact Below.refl _ _ | assumption | refine Below.drew ?_ | refine below_drewN ?_ _ | refine Below.alloc ?_ (by first | omega | (simp; done) | (simp; omega)) _ | refine Below.setCell ?_ (by first | omega | (simp; done) | (simp; omega)) _ | refine Below.trans ?_ (Below.mono (by assumption) (by first | omega | (simp; done) | (simp; omega))))))
        have HL5 := Lib.hid (HL.out.later HW5.out)
        have CL5 := Lib.hid (CL.out.later HW5.out)
        dsimp only
        go_wp2_with (at_builtin; first | ((refine append_poss _ rfl _ _ rfl w5.heap.size _ [] L rfl ?_ pa _ rfl ?_ ?_ ?_ ?_ ?_; (exact own_empty w5 w5.heap.size (Nat.le_refl _)); (exact CL5.out.later HE5.out); (exact NL.out); (first | omega | (simp only [List.length_nil]; omega)); (first | exact HE5.out.size | exact hb6.size)); intro v6 w6 ho6 hg6 hn6; have hb6 : Below w5.heap.size w5 w6 := HE5.out.grown hg6 HE5.out.size (fun b hb => (World.ownsRow.lt (own_empty w5 w5.heap.size (Nat.le_refl _)) b hb).1)) | go_loud ((refine append_poss _ rfl _ _ rfl w5.heap.size _ L L rfl ?_ pa _ rfl ?_ ?_ ?_ ?_ ?_; (exact ho6); (exact CL5.out.later hb6); (exact NL.out); (first | omega | (simp only [List.length_nil]; omega)); (first | exact HE5.out.size | exact hb6.size)); intro v7 w7 ho7' hg7 hn7; have hb7 : Below w5.heap.size w5 w7 := hb6.grown hg7 hb6.size (fun b hb => (World.ownsRow.lt ho6 b hb).1); (have ho7 : OwnP w7 w5.heap.size v7 D := (by rw [HD.out]; exact ho7')); obtain ⟨a7, c7, rfl, hc7, hp7⟩ := ho7.plan (by intro x hx; rw [HD.out] at hx; exact (List.mem_append.1 hx).elim (HL5.out.later hb7 x) (HL5.out.later hb7 x)); have b0 := cell_later hb7 a0; have b1 := cell_later hb7 a1; have b2 := cell_later hb7 a2; have HP7 := Lib.hid hp7; have HPK7 := Lib.hid (HP5.out.later hb7); clear ho7 ho7' hp7 hc7 hn6 hn7 ho6))
        have HW7 := Lib.hid (HW5.out.trans (hb7.mono HW5.out.size))
        have l7 := hb7.size
        clear hg6 hg7 hb6 hb7 a0 a1 a2
        refine Calls.mono (HAK.out _ _ _ (HG.out.later HW7.out) HPK7.out) ?_
        rintro e w8 ⟨rfl, hb8⟩
        have HW8 := Lib.hid (HW7.out.trans (hb8.mono HW7.out.size))
        have HP8 := Lib.hid (HP7.out.later hb8)
        have d0 := cell_later hb8 b0
        have d1 := cell_later hb8 b1
        have d2 := cell_later hb8 b2
        clear hb8 b0 b1 b2
        go_wp2_with fail
        refine Calls.mono (HAD.out _ _ _ (HG.out.later HW8.out) HP8.out) ?_
        rintro e w9 ⟨rfl, hb9⟩
        have HW9 := Lib.hid (HW8.out.trans (hb9.mono HW8.out.size))
        clear hb9 d0 d1 d2
        go_wp2_with fail
        go_ret
        exact retB rfl HW9.out
      · rw [accB_false hA]
        go_wp2_with fail
        go_ret
        exact retB rfl HW5.out
    · have e1 : decide ((140 : Int) < (L.length : Int)) = true := by simp; omega
      go_wp2_with fail
      go_ret
      exact retB rfl HW4.out
  · rw [fewB_no hf]
    go_wp2_with fail
    go_ret
    exact retB rfl HW4.out
end Go.Proofs.Ytghdfoolieagfaa
