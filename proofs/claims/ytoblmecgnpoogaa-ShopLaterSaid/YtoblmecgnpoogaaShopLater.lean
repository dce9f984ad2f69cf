




/- ShopLater: for every tasks, shop, starts and number of hours: if the starts are possible, they are as many hours later, unless one is too late, and with more people and bays, as long as the shop is valid: the call of the law returns true, for every input. -/
import Derived.Test.YtoblmecgnpoogaaLift
import Derived.Test.YtoblmecgnpoogaaShpOpen
import Derived.Test.YtoblmecgnpoogaaShpX
import Derived.Test.YtoblmecgnpoogaaShpY
import Derived.Test.YtoblmecgnpoogaaShpRa
namespace Go.Proofs.Ytoblmecgnpoogaa
open Go.ChangeShapes Go.WideShapes Go.ChangeAt Go.RowKit Go.Joins

theorem list6 {α : Type} {l : List α} (h : l.length = 6) : ∃ a b c d e f, l = [a, b, c, d, e, f] := by
  match l, h with
  | [a, b, c, d, e, f], _ => exact ⟨a, b, c, d, e, f, rfl⟩
namespace ShopLater
def addTo (L : List Int) (d : Int) (i : Nat) : List Int := (List.range i).map fun k => ig L k + d
theorem addTo_succ (L : List Int) (d : Int) (i : Nat) : addTo L d (i + 1) = addTo L d i ++ [ig L i + d] := by simp [addTo, List.range_succ]
theorem addTo_len (L : List Int) (d : Int) (i : Nat) : (addTo L d i).length = i := by simp [addTo]
theorem addTo_ig (L : List Int) (d : Int) {i j : Nat} (h : j < i) : ig (addTo L d i) j = ig L j + d := by
  rw [ig_lt (by rw [addTo_len]; exact h)]
  simp [addTo]
def okTo (L : List Int) (d : Int) (i : Nat) : Bool := (addTo L d i).all fun x => decide (x ≤ 9999999)
theorem okTo_succ (L : List Int) (d : Int) (i : Nat) : okTo L d (i + 1) = (okTo L d i && decide (ig L i + d ≤ 9999999)) := by
  unfold okTo
  rw [addTo_succ, List.all_append]
  simp
theorem shift_chk {l : List Tk} {s : Sh} {st : List Int} {d : Int} (h : chkP l s st) (hd : 0 ≤ d) : chkB l s (addTo st d st.length) = okTo st d st.length := by
  obtain ⟨hv, hs, ho, hg⟩ := h
  have hend : ∀ k, k < l.length → endAt l (addTo st d st.length) k = endAt l st k + d := fun k hk => by
    unfold endAt
    rw [addTo_ig _ _ (by rw [ho.1]; exact hk)]
    omega
  by_cases hok : okTo st d st.length = true
  · rw [hok]
    refine chkB_yes ⟨hv, hs, ⟨by rw [addTo_len, ho.1], fun x hx => ?_⟩, fun i hi => ?_⟩
    · unfold okTo at hok
      rw [List.all_eq_true] at hok
      have h1 := of_decide_eq_true (hok x hx)
      obtain ⟨j, hj, rfl⟩ := List.getElem_of_mem hx
      rw [addTo_len] at hj
      rw [← ig_lt (by rw [addTo_len]; exact hj)] at h1 ⊢
      rw [addTo_ig _ _ hj] at h1 ⊢
      have := (ho.2 _ (ig_mem hj)).1
      omega
    · have hiS : i < st.length := by rw [ho.1]; exact hi
      obtain ⟨g1, g2⟩ := hg i hi
      unfold goodAt
      rw [addTo_ig _ _ hiS]
      constructor
      · rw [late_iff] at g1 ⊢
        intro a ha
        rw [hend _ (after_ok hv hi ha)]
        have := g1 a ha
        omega
      · rw [fitsU_iff hv] at g2 ⊢
        have hc : ∀ Q, cR l (addTo st d st.length) (ig st i + d) Q = cR l st (ig st i) Q := fun Q => cntP_congr fun k hk => by
          have hkS : k < st.length := by rw [ho.1]; exact hk
          have e : runs l (addTo st d st.length) (ig st i + d) k = runs l st (ig st i) k := by
            rw [Bool.eq_iff_iff, runs_iff, runs_iff, hend k hk, addTo_ig _ _ hkS]
            omega
          rw [e]
        rw [hc]
        exact ⟨fun sk hsk h0 => by rw [hc] at h0 ⊢; exact g2.1 sk hsk h0, g2.2⟩
  · have hok' : okTo st d st.length = false := by cases e : okTo st d st.length; rfl; exact absurd e hok
    rw [hok']
    refine chkB_no fun hk => hok ?_
    unfold okTo
    rw [List.all_eq_true]
    intro x hx
    exact decide_eq_true (hk.2.2.1.2 x hx).2
theorem grow_chk {l : List Tk} {s : Sh} {st : List Int} {e f : Int} (h : chkP l s st) (he : 0 ≤ e) (hf : 0 ≤ f) (hv' : VS ⟨addTo s.staff e s.staff.length, s.bays + f⟩) : chkP l ⟨addTo s.staff e s.staff.length, s.bays + f⟩ st := by
  obtain ⟨hv, hs, ho, hg⟩ := h
  refine ⟨hv, hv', ho, fun i hi => ⟨(hg i hi).1, ?_⟩⟩
  have g2 := (hg i hi).2
  rw [fitsU_iff hv] at g2 ⊢
  refine ⟨fun sk hsk h0 => ?_, ?_⟩
  · obtain ⟨h1, h2⟩ := g2.1 sk hsk h0
    refine ⟨by rw [addTo_len]; exact h1, ?_⟩
    show _ ≤ ig (addTo s.staff e s.staff.length) sk
    rw [addTo_ig _ _ h1]
    omega
  · have := g2.2
    show _ ≤ s.bays + f
    omega
theorem own_below {w w' : World} {B : Nat} {v : Value} {l : List Int} (h : OwnI w B v l) (hg : w.grownBy w' v.ownBlock) (hB : B ≤ w.heap.size) : Below B w w' :=
  ((Chg.refl (fun j => v.ownBlock = some j) w).grown hg (fun _ hj _ => hj)).below hB fun _ hj => (World.ownsRow.lt h _ hj).1
structure J15 (w0 : World) (Z : Nat) (v : Value) (L : List Int) (x : Int) (β : Nat → Value) (l11 l12 l14 : Bool) (w : World) : Prop where
  bl : Below Z w0 w
  zlt : Z < w.heap.size
  box : BoxAt w Z [if l14 then β 12 else v, .int .i64 0]
  lit : l11 = true → ∃ m, β 11 = .slice (some ⟨m, 0, none⟩) 1 1 ∧ (l12 = false → w.cell? ⟨m, 0, none⟩ = some (.int .i64 x))
  own0 : l12 = false → OwnI w (Z + 1) v L
  own1 : l12 = true → OwnI w (Z + 1) (β 12) (L ++ [x])
section
variable {w0 w w' : World} {Z : Nat} {v v' : Value} {L : List Int} {x : Int} {β : Nat → Value} {l11 l12 l14 : Bool}
theorem J15.alloc (h : J15 w0 Z v L x β false false l14 w) (T : TypeId) : J15 w0 Z v L x (updG β 11 (.slice (some ⟨w.heap.size, 0, none⟩) 1 1)) true false l14 (w.alloc (.cells #[.int .i64 x] T)) := by
  have hb : Below w.heap.size w (w.alloc (.cells #[.int .i64 x] T)) := (Below.refl _ _).alloc (Nat.le_refl _) _
  have hz := h.zlt
  have e12 : updG β 11 (.slice (some ⟨w.heap.size, 0, none⟩) 1 1) 12 = β 12 := updG_ne _ _ (by decide)
  refine ⟨h.bl.trans (hb.mono (by omega)), Nat.lt_of_lt_of_le hz hb.size, by rw [e12]; exact h.box.later hb, fun _ => ⟨_, updG_at _ _ _, fun _ => (BoxAt.new w [.int .i64 x] T 0 _ rfl).1⟩, fun _ => (h.own0 rfl).later hb, fun e => (by cases e)⟩
theorem J15.app (h : J15 w0 Z v L x β true false false w) (ho : OwnI w' (Z + 1) v' (L ++ [x])) (hg : w.grownBy w' v.ownBlock) : J15 w0 Z v L x (updG β 12 v') true true false w' := by
  have hc : Chg (fun j => v.ownBlock = some j) w w' := (Chg.refl _ w).grown hg (fun j hj _ => hj)
  have hlo : ∀ j, v.ownBlock = some j → Z + 1 ≤ j := fun j hj => (World.ownsRow.lt (h.own0 rfl) j hj).1
  have hz := h.zlt
  have e12 : updG β 12 v' 12 = v' := updG_at _ _ _
  have e11 : updG β 12 v' 11 = β 11 := updG_ne _ _ (by decide)
  refine ⟨h.bl.trans (hc.below (by omega) fun j hj => by have := hlo j hj; omega), Nat.lt_of_lt_of_le hz hc.size, h.box.chg hc (fun e => by have := hlo Z e; omega) hz, fun _ => ?_, fun e => (by cases e), fun _ => by rw [e12]; exact ho⟩
  obtain ⟨m, hm, _⟩ := h.lit rfl
  exact ⟨m, by rw [e11]; exact hm, fun e => (by cases e)⟩
theorem J15.store (h : J15 w0 Z v L x β l11 true false w) : J15 w0 Z v L x β l11 true true (w.setCell ⟨Z, 0, none⟩ (β 12)) := by
  have hc : Chg (fun j => j = Z) w (w.setCell ⟨Z, 0, none⟩ (β 12)) := chg_one w ⟨Z, 0, none⟩ _
  have hz := h.zlt
  refine ⟨h.bl.setCell (by exact Nat.le_refl _) _, by rw [World.size_setCell]; exact hz, fun o u ho => ?_, fun e => ?_, fun e => (by cases e), fun _ => hc.owns (h.own1 rfl) fun k hk e => by have := (World.ownsRow.lt (h.own1 rfl) k hk).1; omega⟩
  · obtain ⟨b0, b1⟩ := h.box 0 _ rfl
    obtain ⟨b2, b3⟩ := h.box 1 _ rfl
    match o, ho with
    | 0, ho => cases ho; simp [go_sem, b0, b1]
    | 1, ho => cases ho; simp [go_sem, b2, b3]
    | o + 2, ho => simp at ho
  · obtain ⟨m, hm, _⟩ := h.lit e
    exact ⟨m, hm, fun e => (by cases e)⟩
theorem J15.same (h : J15 w0 Z v L x β l11 l12 l14 w) (hb : Below w.heap.size w w') : J15 w0 Z v L x β l11 l12 l14 w' := by
  have hz := h.zlt
  refine ⟨h.bl.trans (hb.mono (by omega)), Nat.lt_of_lt_of_le hz hb.size, h.box.later hb, fun e => ?_, fun e => (h.own0 e).later hb, fun e => (h.own1 e).later hb⟩
  obtain ⟨m, hm, hc⟩ := h.lit e
  exact ⟨m, hm, fun e2 => cell_later hb (hc e2)⟩
end
theorem append_int_w (w : World) {o : Oper} {a : Act} {K : Act → World → Prop} {Q : Exit → Act → World → Prop} (s x : Operand)
    (ho : o.op = .call { callee := .builtin .append, args := #[s, x], argTypes := #[23, 23] }) (B : Nat) (v : Value) (l : List Int) (y : Int) (hs : a.eval s = v) (hown : OwnI w B v l)
    (b c : Nat) (hx : a.eval x = .slice (some ⟨b, 0, none⟩) 1 c) (hc : w.cell? ⟨b, 0, none⟩ = some (.int .i64 y)) (hl : l.length + 1 ≤ 1000000000000) (hB : B ≤ w.heap.size)
    (h : ∀ v' w', OwnI w' B v' (l ++ [y]) → w.grownBy w' v.ownBlock → K (a.put o.dst v') w') : o.wp Try.prog a w K Q := by
  obtain ⟨i0, hi, hz0, hz1, hz2⟩ := info_parts info_int
  refine wp_append_at s x 23 ho B 3 i0 (.int .i64 0) 1 8 Try.underlying23 hi hz0 hz1 hz2 rfl (by decide) v l.length _ hs hown ⟨b, 0, none⟩ 1 c [.int .i64 y] hx rfl ?_ ?_ (by unfold maxLen; omega) (by omega) hB fun v' w' h1 h2 _ => h v' w' ?_ h2
  · intro j u hu
    match j, hu with
    | 0, hu => simp at hu; subst hu; simpa [Addr.add] using hc
  · intro u hu
    simp at hu
    subst hu
    rfl
  · unfold OwnI
    simpa using h1
set_option maxRecDepth 100000 in
set_option maxHeartbeats 4000000 in
theorem walk (w : World) (a : Option Addr) (cap : Nat) (l : List Tk) (hT : Tasks w a l) (hl : l.length < 9223372036854775808) (hS : ∀ i, i < l.length → (tg l i).after.length < 9223372036854775808) (s : Sh) (sa : Option Addr) (sc : Nat) (hI : Ints w sa s.staff) (hs : s.staff.length < 9223372036854775808)
    (ia : Option Addr) (ic : Nat) (st : List Int) (hJ : Ints w ia st) (_hm : st.length < 9223372036854775808) (d : Int) (hd : 0 ≤ d ∧ d < 65536) (e1 : Int) (he1 : 0 ≤ e1 ∧ e1 < 256) (e2 : Int) (he2 : 0 ≤ e2 ∧ e2 < 256) :
    Calls Try.prog 6 #[.slice a l.length cap, shV s sa sc, .slice ia st.length ic, .int .u16 d, .int .u8 e1, .int .u8 e2] w (RetB (.bool true) w) := by
  obtain ⟨m, hm⟩ : ∃ m, m = st.length := ⟨_, rfl⟩
  have HM := Lib.hid hm
  have HJ := Lib.hid hJ
  have HD := Lib.hid hd
  have HE1 := Lib.hid he1
  have HE2 := Lib.hid he2
  have HCK := Lib.hid (show ∀ wy (s' : Sh) (sa' : Option Addr) (sc' q' : Nat), Below w.heap.size w wy → Ints wy sa' s'.staff → q' = s'.staff.length → q' ≤ 20 → st.length ≤ 45 → Calls Try.prog 17 #[.slice a l.length cap, .agg #[.slice sa' q' sc', .int .i64 s'.bays], .slice ia st.length ic] wy (RetB (.bool (chkB l s' st)) wy) from fun wy s' sa' sc' q' hy h1 h2 h3 h4 => by
    subst h2
    exact check_any l a cap s' sa' sc' st ia ic wy (hT.later hy) hl (fun _ => hS) h1 (by omega) (hJ.later hy) (by omega))
  rw [← hm]
  clear hm hJ _hm hd he1 he2
  have hS40 : l.length ≤ 40 → ∀ i, i < l.length → (tg l i).after.length < 9223372036854775808 := fun _ => hS
  obtain ⟨n, hn⟩ : ∃ n, n = l.length := ⟨_, rfl⟩
  obtain ⟨q, hq⟩ : ∃ n, n = s.staff.length := ⟨_, rfl⟩
  obtain ⟨bs, hbs⟩ : ∃ n, n = s.bays := ⟨_, rfl⟩
  have HF := Lib.hid (show ∀ wy, Below w.heap.size w wy → Calls Try.prog 11 #[.slice a n cap] wy (RetAS wy) from fun wy hy => by
    rw [hn]
    exact few_any l a cap wy (hT.later hy) hl hS40)
  have HP := Lib.hid (show ∀ wy, Below w.heap.size w wy → q ≤ 20 → Calls Try.prog 12 #[.slice a n cap, .agg #[.slice sa q sc, .int .i64 bs]] wy (PlanTo l s wy) from fun wy hy h20 => by
    rw [hn, hq, hbs]
    exact plan_any l a cap s sa sc wy (hT.later hy) hl hS40 (hI.later hy) (by omega))
  have HC := Lib.hid (show ∀ wy, Below w.heap.size w wy → q ≤ 20 → ∀ (st : List Int) (ia : Option Addr) (ic m : Nat), Ints wy ia st → m = st.length → m < 9223372036854775807 → Calls Try.prog 17 #[.slice a n cap, .agg #[.slice sa q sc, .int .i64 bs], .slice ia m ic] wy (RetB (.bool (chkB l s st)) wy) from fun wy hy h20 st ia ic m hJ hm hs2 => by
    subst hm
    rw [hn, hq, hbs]
    exact check_any l a cap s sa sc st ia ic wy (hT.later hy) hl hS40 (hI.later hy) (by omega) hJ hs2)
  have HT := Lib.hid hT
  have HI := Lib.hid hI
  have HN := Lib.hid hn
  have HQ := Lib.hid hq
  have HBS := Lib.hid hbs
  have HS := Lib.hid hS40
  have HL := Lib.hid hl
  unfold shV
  rw [← hn, ← hq, ← hbs]
  clear hT hl hS hS40 hI hs hn hq hbs
  go_enter Try.func6, Try.ntmps6
  go_upto_region 1 with fail
  obtain ⟨wX, P, hP, hbX, hBX, hwX⟩ : ∃ wX P, P = w.heap.size ∧ Below w.heap.size w wX ∧ BoxAt wX P [.slice sa q sc, .int .i64 bs] ∧ wX = w.alloc (.cells #[.slice sa q sc, .int .i64 bs] 25) := ⟨_, _, rfl, (Below.refl _ _).alloc (Nat.le_refl _) _, BoxAt.new w _ _, rfl⟩
  rw [← hwX, ← hP]
  have HBX := Lib.hid hbX
  have HX := Lib.hid hBX
  clear hP hbX hBX hwX
  go_wp2_with fail
  refine Calls.mono (head_any _) ?_
  rintro e w1 ⟨rfl, hb1⟩
  have HB1 := Lib.hid (HBX.out.trans (hb1.mono HBX.out.size))
  have HX1 := Lib.hid (HX.out.later hb1)
  have c0 := (HX1.out 0 _ rfl).1
  have c1 := (HX1.out 1 _ rfl).1
  clear hb1 HBX HX
  go_wp2_with fail
  refine Calls.mono (HF.out w1 HB1.out) ?_
  rintro e w2 ⟨b, rfl, rfl⟩
  cases b
  case false =>
    go_wp2_with fail
    go_ret
    exact retB rfl HB1.out
  by_cases hq20 : (20 : Int) < (q : Int)
  · go_wp2_with fail
    go_ret
    exact retB rfl HB1.out
  have HQ20 := Lib.hid (show q ≤ 20 from by omega)
  by_cases h45 : (45 : Int) < (m : Int)
  · go_wp2_with fail
    go_ret
    exact retB rfl HB1.out
  have hcc := HC.out w1 HB1.out HQ20.out st ia ic m (HJ.out.later HB1.out) HM.out (by omega)
  obtain ⟨v, hv⟩ : ∃ v, v = chkB l s st := ⟨_, rfl⟩
  rw [← hv] at hcc
  have HCC := Lib.hid hcc
  have HVE := Lib.hid hv
  clear hcc hv
  go_wp2_with fail
  refine Calls.mono HCC.out ?_
  rintro e w2 ⟨rfl, hb2⟩
  have HB2 := Lib.hid (HB1.out.trans (hb2.mono HB1.out.size))
  have HX2 := Lib.hid (HX1.out.later hb2)
  clear hb2 c0 c1
  cases v
  case false =>
    go_wp2_with fail
    go_ret
    exact retB rfl HB2.out
  have hk : chkP l s st := Classical.byContradiction fun hn => by
    have h := HVE.out
    rw [chkB_no hn] at h
    cases h
  have HK := Lib.hid hk
  clear hk
  have hwd : IntKind.i64.wrap d = d := IntWalk.i64_in _ (by have := HD.out; omega)
  go_upto_region 7 with fail
  go_loopg [14, 15, 16] (m + 1) (fun gk v14 v15 v16 wr => ∃ (i : Nat) (v : Value), i ≤ m ∧ gk + i = m + 1 ∧ v16 = .int .i64 i ∧ v15 = .bool (okTo st d i) ∧ v14 = v ∧ OwnI wr w2.heap.size v (addTo st d i) ∧ Below w2.heap.size w2 wr)
  case atStart => exact ⟨0, _, by omega, by omega, rfl, rfl, rfl, OwnI.nil _ _, Below.refl _ _⟩
  case round =>
    obtain ⟨i, v, hi, hgi, rfl, rfl, rfl, hown, hbr⟩ := hrel
    have HOW := Lib.hid hown
    have HBR := Lib.hid hbr
    clear hown
    by_cases hlt : i < m
    · obtain ⟨jb, jo, rfl, fj⟩ := (HJ.out.later (HB2.out.trans (hbr.mono HB2.out.size))).fam (by have := HM.out; omega)
      have cj := fj i (by rw [← HM.out]; exact hlt)
      obtain ⟨x, hx⟩ : ∃ x, x = ig st i := ⟨_, rfl⟩
      have hxb := HK.out.2.2.1.2 _ (ig_mem (l := st) (i := i) (by rw [← HM.out]; exact hlt))
      rw [← hx] at cj hxb
      have hw1 : IntKind.i64.wrap (x + d) = x + d := IntWalk.i64_in _ (by have := HD.out; omega)
      obtain ⟨ok, hok⟩ : ∃ ok, ok = okTo st d i := ⟨_, rfl⟩
      have HOK := Lib.hid (show okTo st d (i + 1) = (ok && decide (x + d ≤ 9999999)) from by rw [okTo_succ, hok, hx])
      have HAS := Lib.hid (show addTo st d (i + 1) = addTo st d i ++ [x + d] from by rw [addTo_succ, hx])
      rw [← hok]
      have n1 : (i : Int) < (m : Int) := by omega
      have n0 : (0 : Int) ≤ (i : Int) := by omega
      have hbA : Below wr.heap.size wr (wr.alloc (.cells #[.int .i64 (x + d)] 3)) := (Below.refl _ _).alloc (Nat.le_refl _) _
      have HBA := Lib.hid hbA
      have HLL := Lib.hid (show m ≤ 45 from by omega)
      have HXE := Lib.hid hx
      clear hx hok hbA fj hbr
      go_upto_region 10 with (at_builtin; go_loud (refine append_int _ rfl _ _ rfl w2.heap.size _ (addTo st d i) (x + d) rfl (HOW.out.later HBA.out) wr.heap.size 1 rfl (BoxAt.new wr [.int .i64 (x + d)] 3 0 _ rfl).1 (by rw [addTo_len]; have := HLL.out; omega) (Nat.le_trans HBR.out.size HBA.out.size) ?_; intro v5 w5 ho5 hg5; have HO5 := Lib.hid ho5; have HB5 := Lib.hid ((HBR.out.trans (HBA.out.mono HBR.out.size)).trans (own_below (HOW.out.later HBA.out) hg5 (Nat.le_trans HBR.out.size HBA.out.size))); clear ho5 hg5))
      obtain ⟨va, vc, rfl, hi5, _⟩ := HO5.out.ints
      rw [← HAS.out] at hi5 HO5
      rw [← HAS.out, addTo_len]
      rw [addTo_len] at HO5
      obtain ⟨kb, ko, rfl, f5⟩ := hi5.fam (by rw [addTo_len]; omega)
      have c5 := f5 i (by rw [addTo_len]; omega)
      rw [addTo_ig _ _ (Nat.lt_succ_self i), ← HXE.out] at c5
      have i1 : (i : Int) < ((i + 1 : Nat) : Int) := by omega
      have HG1 := Lib.hid (show m - i < gk from by omega)
      clear hi5 f5 cj n1 hxb hw1
      cases ok
      · have HOK2 := Lib.hid (show okTo st d (i + 1) = false from by rw [HOK.out]; rfl)
        go_wp2_with fail
        go_roundg (m - i)
        case measure => exact HG1.out
        case rel => exact ⟨i + 1, _, by omega, by omega, by go_num, by rw [HOK2.out], rfl, HO5.out, HB5.out⟩
      · by_cases hle : x + d ≤ 9999999
        · have HOK2 := Lib.hid (show okTo st d (i + 1) = true from by rw [HOK.out, decide_eq_true hle]; rfl)
          go_wp2_with fail
          go_roundg (m - i)
          case measure => exact HG1.out
          case rel => exact ⟨i + 1, _, by omega, by omega, by go_num, by rw [HOK2.out], rfl, HO5.out, HB5.out⟩
        · have HOK2 := Lib.hid (show okTo st d (i + 1) = false from by rw [HOK.out, decide_eq_false hle]; rfl)
          go_wp2_with fail
          go_roundg (m - i)
          case measure => exact HG1.out
          case rel => exact ⟨i + 1, _, by omega, by omega, by go_num, by rw [HOK2.out], rfl, HO5.out, HB5.out⟩
    · obtain rfl : i = m := by omega
      obtain ⟨ma, mc, rfl, hmi, hmo⟩ := HOW.out.ints
      rw [addTo_len]
      have HMI := Lib.hid hmi
      have hwe : IntKind.i64.wrap e1 = e1 := IntWalk.i64_in _ (by have := HE1.out; omega)
      obtain ⟨f1, hf1⟩ : ∃ f, e1.tmod 4 = f := ⟨_, rfl⟩
      have hf1b : 0 ≤ f1 ∧ f1 < 4 := by
        have h1 := Int.tmod_nonneg 4 HE1.out.1
        have h2 := Int.tmod_lt_of_pos e1 (show (0 : Int) < 4 by decide)
        omega
      have HF1 := Lib.hid hf1b
      have HF1E := Lib.hid hf1
      clear hmi hmo hlt hwd hf1b
      go_upto_region 13 with fail
      obtain ⟨w11, Z, hZ, hb11, hBZ, hw11⟩ : ∃ w11 Z, Z = wr.heap.size ∧ Below wr.heap.size wr w11 ∧ BoxAt w11 Z [.slice none 0 0, .int .i64 0] ∧ w11 = wr.alloc (.cells #[.slice none 0 0, .int .i64 0] 25) := ⟨_, _, rfl, (Below.refl _ _).alloc (Nat.le_refl _) _, BoxAt.new wr _ _, rfl⟩
      rw [← hw11, ← hZ]
      have HB11 := Lib.hid (HB2.out.trans ((hbr.trans (hb11.mono hbr.size)).mono HB2.out.size))
      have HX11 := Lib.hid ((HX2.out.later hbr).later hb11)
      have HKEEP := Lib.hid (show ∀ wy, Below Z w11 wy → Below w.heap.size w wy ∧ Ints wy ma (addTo st d i) ∧ BoxAt wy P [.slice sa q sc, .int .i64 bs] from fun wy hy => by
        have h1 : Below wr.heap.size wr wy := hb11.trans (by rw [hZ] at hy; exact hy)
        exact ⟨HB2.out.trans ((hbr.trans (h1.mono hbr.size)).mono HB2.out.size), HMI.out.later h1, (HX2.out.later hbr).later h1⟩)
      have HPZ := Lib.hid (show P < Z ∧ w.heap.size ≤ Z from by
        have h1 := World.block_lt_of_cell? _ _ ((HX2.out.later hbr) 0 _ rfl).1
        have h2 := HB2.out.size
        have h3 := hbr.size
        rw [hZ]
        exact ⟨h1, by omega⟩)
      have HBZ := Lib.hid hBZ
      have hZl : Z < w11.heap.size := World.block_lt_of_cell? _ _ (hBZ 0 _ rfl).1
      have HZL := Lib.hid (show Z + 1 = w11.heap.size from by rw [hw11, World.size_alloc, hZ])
      clear hZ hb11 hBZ hw11 hbr
      go_loopg [18] (q + 1) (fun gk v18 wz => ∃ (k : Nat) (v : Value), k ≤ q ∧ gk + k = q + 1 ∧ v18 = .int .i64 k ∧ Below Z w11 wz ∧ Z < wz.heap.size ∧ BoxAt wz Z [v, .int .i64 0] ∧ OwnI wz (Z + 1) v (addTo s.staff f1 k))
      case atStart => exact ⟨0, _, by omega, by omega, rfl, Below.refl _ _, hZl, HBZ.out, OwnI.nil _ _⟩
      case round =>
        obtain ⟨k, v, hk, hgk, rfl, hbz, hzl, hbx, how⟩ := hrel
        have HBZ2 := Lib.hid hbz
        have HBX2 := Lib.hid hbx
        have HOW2 := Lib.hid how
        obtain ⟨kw, _, kx⟩ := HKEEP.out wr hbz
        have p0 := (kx 0 _ rfl).1
        have p1 := (kx 1 _ rfl).1
        clear how hbx hbz
        by_cases hlt : k < q
        · obtain ⟨sb, so, rfl, fs⟩ := HI.out.fam (by rw [← HQ.out]; omega)
          have cs0 := fs k (by rw [← HQ.out]; exact hlt)
          have hsb : sb < Z := Nat.lt_of_lt_of_le (World.block_lt_of_cell? _ _ cs0) HPZ.out.2
          have cs := cell_later kw cs0
          have hsv := HK.out.2.1.2.1 _ (ig_mem (l := s.staff) (i := k) (by rw [← HQ.out]; exact hlt))
          obtain ⟨y, hy⟩ : ∃ y, y = ig s.staff k := ⟨_, rfl⟩
          rw [← hy] at cs hsv
          have hw1 : IntKind.i64.wrap (y + f1) = y + f1 := IntWalk.i64_in _ (by have := HF1.out; omega)
          have HAS := Lib.hid (show addTo s.staff f1 (k + 1) = addTo s.staff f1 k ++ [y + f1] from by rw [addTo_succ, hy])
          have HJ0 := Lib.hid (show J15 wr Z v (addTo s.staff f1 k) (y + f1) (fun _ => undef) false false false wr from ⟨Below.refl _ _, hzl, HBX2.out, fun e => (by cases e), fun _ => HOW2.out, fun e => (by cases e)⟩)
          have HOLD := Lib.hid (show ∀ wy, Below Z wr wy → wy.cell? ⟨P, 0, none⟩ = some (.slice (some ⟨sb, so, none⟩) q sc) ∧ wy.cell? ⟨sb, so + k, none⟩ = some (.int .i64 y) from fun wy hy => ⟨(hy.cell (p := ⟨P, 0, none⟩) HPZ.out.1).trans p0, (hy.cell (p := ⟨sb, so + k, none⟩) hsb).trans cs⟩)
          have n1 : (k : Int) < (q : Int) := by omega
          have n0 : (0 : Int) ≤ (k : Int) := by omega
          clear fs cs0 hsb hsv hy kx kw p1
          go_upto_region 15 with fail
          clear p0 cs
          refine wp_flow_j (fun β L' w' => J15 wr Z v (addTo s.staff f1 k) (y + f1) β (L' 11) (L' 12) (L' 14) w') (by kernel_rfl) (by kernel_rfl) ?h0 ?_
          case h0 => exact HJ0.out.same ((Below.refl _ _).drew)
          ((with_reducible refine FlowJ.pure (v := ?_) ?_ ?_ ?_ ?_); rotate_left 1; (focus (intro _; rfl)); (focus (intro β L' w' hJ hat; (try dsimp only at hJ); (try dsimp only); simpa only [setL, Nat.reduceEqDiff, if_false] using hJ)); (focus (intro β L' w' hJ hat; (try dsimp only at hJ); skip; go_simp; (try with_reducible rfl); done)); (try simp only [Act.put, List.setIfInBounds_toArray, List.set_cons_zero, List.set_cons_succ, Nat.reduceAdd]))
          ((with_reducible refine FlowJ.pure (v := v) ?_ ?_ ?_ ?_); (focus (intro _; rfl)); (focus (intro β L' w' hJ hat; (try dsimp only at hJ); (try dsimp only); simpa only [setL, Nat.reduceEqDiff, if_false] using hJ)); (focus (intro β L' w' hJ hat; (try dsimp only at hJ); ((have n14 := hat.not (j := 14) (by kernel_rfl)); simp only [n14] at hJ; have b := (hJ.box 0 _ rfl).1; simp only [Bool.false_eq_true, if_false] at b; clear hJ; go_simp; (try with_reducible rfl); done))); (try simp only [Act.put, List.setIfInBounds_toArray, List.set_cons_zero, List.set_cons_succ, Nat.reduceAdd]))
          ((with_reducible refine FlowJ.pure (v := ?_) ?_ ?_ ?_ ?_); rotate_left 1; (focus (intro _; rfl)); (focus (intro β L' w' hJ hat; (try dsimp only at hJ); (try dsimp only); simpa only [setL, Nat.reduceEqDiff, if_false] using hJ)); (focus (intro β L' w' hJ hat; (try dsimp only at hJ); skip; go_simp; (try with_reducible rfl); done)); (try simp only [Act.put, List.setIfInBounds_toArray, List.set_cons_zero, List.set_cons_succ, Nat.reduceAdd]))
          ((with_reducible refine FlowJ.pure (v := .slice (some ⟨sb, so, none⟩) q sc) ?_ ?_ ?_ ?_); (focus (intro _; rfl)); (focus (intro β L' w' hJ hat; (try dsimp only at hJ); (try dsimp only); simpa only [setL, Nat.reduceEqDiff, if_false] using hJ)); (focus (intro β L' w' hJ hat; (try dsimp only at hJ); (have c := (HOLD.out w' hJ.bl).1; clear hJ; go_simp; (try with_reducible rfl); done))); (try simp only [Act.put, List.setIfInBounds_toArray, List.set_cons_zero, List.set_cons_succ, Nat.reduceAdd]))
          iterate 2 (((with_reducible refine FlowJ.pure (v := ?_) ?_ ?_ ?_ ?_); rotate_left 1; (focus (intro _; rfl)); (focus (intro β L' w' hJ hat; (try dsimp only at hJ); (try dsimp only); simpa only [setL, Nat.reduceEqDiff, if_false] using hJ)); (focus (intro β L' w' hJ hat; (try dsimp only at hJ); skip; go_simp; (try with_reducible rfl); done)); (try simp only [Act.put, List.setIfInBounds_toArray, List.set_cons_zero, List.set_cons_succ, Nat.reduceAdd])))
          ((with_reducible refine FlowJ.pure (v := .int .i64 y) ?_ ?_ ?_ ?_); (focus (intro _; rfl)); (focus (intro β L' w' hJ hat; (try dsimp only at hJ); (try dsimp only); simpa only [setL, Nat.reduceEqDiff, if_false] using hJ)); (focus (intro β L' w' hJ hat; (try dsimp only at hJ); (have c := (HOLD.out w' hJ.bl).2; clear hJ; go_simp; (try with_reducible rfl); done))); (try simp only [Act.put, List.setIfInBounds_toArray, List.set_cons_zero, List.set_cons_succ, Nat.reduceAdd]))
          iterate 4 (((with_reducible refine FlowJ.pure (v := ?_) ?_ ?_ ?_ ?_); rotate_left 1; (focus (intro _; rfl)); (focus (intro β L' w' hJ hat; (try dsimp only at hJ); (try dsimp only); simpa only [setL, Nat.reduceEqDiff, if_false] using hJ)); (focus (intro β L' w' hJ hat; (try dsimp only at hJ); skip; go_simp; (try with_reducible rfl); done)); (try simp only [Act.put, List.setIfInBounds_toArray, List.set_cons_zero, List.set_cons_succ, Nat.reduceAdd])))
          ((with_reducible refine FlowJ.ghost ?_ ?_ ?_); (focus (intro _; rfl)); (focus (intro β L' w' hJ hat K' hK; (try dsimp only at hJ); (have un := hat.un; (have n12 := hat.not (j := 12) (by kernel_rfl)); simp only [un, n12] at hJ; go_simp; refine hK.out _ _ ?_; simp only [setL, Nat.reduceEqDiff, if_true, if_false, n12]; exact hJ.alloc _))); (try simp only [Act.put, List.setIfInBounds_toArray, List.set_cons_zero, List.set_cons_succ, Nat.reduceAdd]))
          ((with_reducible refine FlowJ.ghost ?_ ?_ ?_); (focus (intro _; rfl)); (focus (intro β L' w' hJ hat K' hK; (try dsimp only at hJ); ((have p11 := hat.pre 11 (by kernel_rfl)); have un := hat.un; (have n14 := hat.not (j := 14) (by kernel_rfl)); simp only [p11, un, n14] at hJ; obtain ⟨m0, hm0, hc0⟩ := hJ.lit rfl; have hz0 := hJ.zlt; refine append_int_w _ _ _ rfl (Z + 1) v (addTo s.staff f1 k) (y + f1) rfl (hJ.own0 rfl) m0 1 ((show _ = β 11 from rfl).trans hm0) (hc0 rfl) (by rw [addTo_len]; omega) (by omega) ?_; intro v' w4 ho4 hg4; refine hK.out _ _ ?_; simp only [setL, Nat.reduceEqDiff, if_true, if_false, p11, n14]; exact hJ.app ho4 hg4))); (try simp only [Act.put, List.setIfInBounds_toArray, List.set_cons_zero, List.set_cons_succ, Nat.reduceAdd]))
          ((with_reducible refine FlowJ.pure (v := ?_) ?_ ?_ ?_ ?_); rotate_left 1; (focus (intro _; rfl)); (focus (intro β L' w' hJ hat; (try dsimp only at hJ); (try dsimp only); simpa only [setL, Nat.reduceEqDiff, if_false] using hJ)); (focus (intro β L' w' hJ hat; (try dsimp only at hJ); skip; go_simp; (try with_reducible rfl); done)); (try simp only [Act.put, List.setIfInBounds_toArray, List.set_cons_zero, List.set_cons_succ, Nat.reduceAdd]))
          ((with_reducible refine FlowJ.eff ?_ ?_ ?_); (focus (intro _; rfl)); (focus (intro β L' w' hJ hat K' hK; (try dsimp only at hJ); ((have p12 := hat.pre 12 (by kernel_rfl)); have un := hat.un; simp only [un, p12] at hJ; have hst := hJ.store; obtain ⟨b0, g0⟩ := hJ.box 0 _ rfl; simp only [Bool.false_eq_true, if_false] at b0; obtain ⟨va, vc, hv12⟩ := (hJ.own1 rfl).len; obtain ⟨ln, hln⟩ : ∃ ln, ln = (addTo s.staff f1 k ++ [y + f1]).length := ⟨_, rfl⟩; rw [← hln] at hv12; clear hln; have HST := Lib.hid hst; clear hJ hst; rw [hv12]; go_simp; rw [← hv12]; refine hK.out _ ?_; simp only [setL, Nat.reduceEqDiff, if_true, if_false, p12]; exact HST.out))); (try simp only [Act.put, Nat.reduceAdd]))
          refine FlowJ.stop ?_
          intro β w15 hJ
          have HJF := Lib.hid (show J15 wr Z v (addTo s.staff f1 k) (y + f1) β true true true w15 from hJ)
          clear hJ hw1
          go_wp2_with fail
          go_roundg (gk - 1)
          case measure => omega
          case rel =>
            have h := HJF.out
            exact ⟨k + 1, β 12, by omega, by omega, by go_num, HBZ2.out.trans h.bl, h.zlt, h.box, by rw [HAS.out]; exact h.own1 rfl⟩
        · obtain rfl : k = q := by omega
          have z0 := (HBX2.out 0 _ rfl).1
          obtain ⟨z1, zf⟩ := HBX2.out 1 _ rfl
          obtain ⟨f2, hf2⟩ : ∃ f, e2.tmod 4 = f := ⟨_, rfl⟩
          have hf2b : 0 ≤ f2 ∧ f2 < 4 := by
            have h1 := Int.tmod_nonneg 4 HE2.out.1
            have h2 := Int.tmod_lt_of_pos e2 (show (0 : Int) < 4 by decide)
            omega
          have hw2 : IntKind.i64.wrap e2 = e2 := IntWalk.i64_in _ (by have := HE2.out; omega)
          have hw3 : IntKind.i64.wrap (bs + f2) = bs + f2 := IntWalk.i64_in _ (by have := HK.out.2.1.2.2; rw [← HBS.out] at this; omega)
          have HF2 := Lib.hid hf2b
          have hc16 : Chg (fun j => j = Z) wr (wr.setCell ⟨Z, 1, none⟩ (.int .i64 (bs + f2))) := chg_one wr ⟨Z, 1, none⟩ _
          have hb16 : Below Z w11 (wr.setCell ⟨Z, 1, none⟩ (.int .i64 (bs + f2))) := HBZ2.out.setCell (by exact Nat.le_refl _) _
          have ho16 : OwnI (wr.setCell ⟨Z, 1, none⟩ (.int .i64 (bs + f2))) (Z + 1) v (addTo s.staff f1 k) := hc16.owns HOW2.out fun j hj e => by
            have := (World.ownsRow.lt HOW2.out j hj).1
            have e' : j = Z := e
            omega
          have hx16 : BoxAt (wr.setCell ⟨Z, 1, none⟩ (.int .i64 (bs + f2))) Z [v, .int .i64 (bs + f2)] := fun o u ho => by
            obtain ⟨b0, b1⟩ := HBX2.out 0 _ rfl
            obtain ⟨b2, b3⟩ := HBX2.out 1 _ rfl
            match o, ho with
            | 0, ho => cases ho; simp [go_sem, b0, b1]
            | 1, ho => cases ho; simp [go_sem, b2, b3]
            | o + 2, ho => simp at ho
          obtain ⟨va, vc, rfl, hvi, _⟩ := ho16.ints
          rw [addTo_len] at hx16
          obtain ⟨w16, hw16⟩ : ∃ w16, w16 = wr.setCell ⟨Z, 1, none⟩ (.int .i64 (bs + f2)) := ⟨_, rfl⟩
          rw [← hw16] at hb16 ho16 hx16 hvi
          have HW16 := Lib.hid hw16
          have HX16 := Lib.hid hx16
          have HVI := Lib.hid hvi
          have HB16 := Lib.hid hb16
          clear hw16 hx16 hvi ho16 hb16 hc16 hf2b hlt
          go_upto_region 17 with fail
          rw [← HW16.out]
          clear z0 z1 zf p0 p1 hw2 hw3
          obtain ⟨kw, km, kx⟩ := HKEEP.out w16 HB16.out
          have c1 := HC.out w16 kw HQ20.out (addTo st d i) ma mc i km (by rw [addTo_len]) (by omega)
          have hsh : chkB l s (addTo st d i) = okTo st d i := by
            have := shift_chk HK.out HD.out.1
            rw [← HM.out] at this
            exact this
          rw [hsh] at c1
          obtain ⟨ok, hok⟩ : ∃ ok, ok = okTo st d i := ⟨_, rfl⟩
          rw [← hok] at c1 ⊢
          have HC1 := Lib.hid c1
          have HRV := Lib.hid (show ∀ wy, Below w16.heap.size w16 wy → Calls Try.prog 20 #[.agg #[.slice va k vc, .int .i64 (bs + f2)]] wy (RetB (.bool (vsV ⟨addTo s.staff f1 k, bs + f2⟩)) wy) from fun wy hy => by
            have h := rshop_any ⟨addTo s.staff f1 k, bs + f2⟩ va vc wy (HVI.out.later hy) (by show (addTo s.staff f1 k).length ≤ 20; rw [addTo_len]; exact HQ20.out)
            unfold shV at h
            rw [show (⟨addTo s.staff f1 k, bs + f2⟩ : Sh).staff.length = k from addTo_len _ _ _] at h
            exact h)
          have HC2 := Lib.hid (show ∀ wy, Below w16.heap.size w16 wy → VS ⟨addTo s.staff f1 k, bs + f2⟩ → Calls Try.prog 17 #[.slice a n cap, .agg #[.slice va k vc, .int .i64 (bs + f2)], .slice ia i ic] wy (RetB (.bool true) wy) from fun wy hy hvs => by
            have h := HCK.out wy ⟨addTo s.staff f1 k, bs + f2⟩ va vc k (kw.trans (hy.mono kw.size)) (HVI.out.later hy) (by rw [addTo_len]) HQ20.out (by rw [← HM.out]; omega)
            have hg := grow_chk (e := f1) (f := f2) HK.out HF1.out.1 HF2.out.1 (by rw [← HQ.out, ← HBS.out]; exact hvs)
            rw [← HQ.out, ← HBS.out] at hg
            rw [chkB_yes hg, ← HN.out, ← HM.out] at h
            exact h)
          have p0 := (kx 0 _ rfl).1
          have p1 := (kx 1 _ rfl).1
          have HKW := Lib.hid kw
          clear hok hsh c1 km kx kw
          go_wp2_with fail
          refine Calls.mono HC1.out ?_
          rintro e w17 ⟨rfl, hb17⟩
          have hx17 := HX16.out.later hb17
          have z0 := (hx17 0 _ rfl).1
          have z1 := (hx17 1 _ rfl).1
          have HB17 := Lib.hid hb17
          have HX17 := Lib.hid hx17
          clear hb17 hx17 p0 p1
          have hoo : (ok == ok) = true := by simp
          obtain ⟨vs, hvs⟩ : ∃ b, b = vsV ⟨addTo s.staff f1 k, bs + f2⟩ := ⟨_, rfl⟩
          have hrv := HRV.out w17 HB17.out
          rw [← hvs] at hrv
          have HRV2 := Lib.hid hrv
          have HVS2 := Lib.hid hvs
          clear hvs hrv
          go_wp2_with fail
          refine Calls.mono HRV2.out ?_
          rintro e w18 ⟨rfl, hb18⟩
          have HB18 := Lib.hid (HB17.out.trans (hb18.mono HB17.out.size))
          have y0 := cell_later hb18 z0
          have y1 := cell_later hb18 z1
          clear hb18 z0 z1
          cases vs
          · go_wp2_with fail
            go_ret
            exact retB rfl (HKW.out.trans (HB18.out.mono HKW.out.size))
          · have hc2 := HC2.out w18 HB18.out ((vsV_iff _).1 HVS2.out.symm)
            have HC3 := Lib.hid hc2
            clear hc2
            go_wp2_with fail
            refine Calls.mono HC3.out ?_
            rintro e w19 ⟨rfl, hb19⟩
            have HB19 := Lib.hid (HB18.out.trans (hb19.mono HB18.out.size))
            clear hb19
            go_wp2_with fail
            go_ret
            exact retB rfl (HKW.out.trans (HB19.out.mono HKW.out.size))
end ShopLater
namespace ShopLater
set_option maxRecDepth 100000 in
theorem entry (H : Type) (enc : TypeId × Value → H) (W : World) (base : Nat) (args : Array Value) (ds : List (DataW H)) (p : List MemPlace)
    (hval : ∀ (j : Nat) t v, Try.f6.params[j]? = some t → args[j]? = some v → Value.okWide Try.prog W .any base t v)
    (hA : DataW.TrodAll enc Try.prog W 0 (fun _ => true) true Try.f6.params.toList args.toList ds p) :
    Calls Try.prog 6 args W (RetB (.bool true) W) := by
  rw [Try.params6] at hA hval
  obtain ⟨v0, vs0, d0, ds0, p0, q0, hargs, rfl, rfl, h0, r0⟩ := trodAll_cons hA
  obtain ⟨v1, vs1, d1, ds1, p1, q1, rfl, rfl, rfl, h1, r1⟩ := trodAll_cons r0
  obtain ⟨v2, vs2, d2, ds2, p2, q2, rfl, rfl, rfl, h2, r2⟩ := trodAll_cons r1
  obtain ⟨v3, vs3, d3, ds3, p3, q3, rfl, rfl, rfl, h3, r3⟩ := trodAll_cons r2
  obtain ⟨v4, vs4, d4, ds4, p4, q4, rfl, rfl, rfl, h4, r4⟩ := trodAll_cons r3
  obtain ⟨v5, vs5, d5, ds5, p5, q5, rfl, rfl, rfl, h5, r5⟩ := trodAll_cons r4
  obtain ⟨rfl, rfl, rfl⟩ := trodAll_nil r5
  obtain rfl : args = #[v0, v1, v2, v3, v4, v5] := by cases args; simp_all
  obtain ⟨la, lc, l, rfl, lT, ll, ls⟩ := open_tasks (hval 0 22 v0 rfl rfl) h0
  obtain ⟨s, sa, sc, rfl, sI, sl⟩ := open_shop (hval 1 25 v1 rfl rfl) h1
  obtain ⟨ta, tc, t, rfl, tI, tl⟩ := open_ints_at (hval 2 23 v2 rfl rfl) h2
  obtain ⟨h, rfl, ho⟩ := open_u16 (hval 3 36 v3 rfl rfl) h3
  obtain ⟨m, rfl, mo⟩ := open_u8 (hval 4 5 v4 rfl rfl) h4
  obtain ⟨b, rfl, bo⟩ := open_u8 (hval 5 5 v5 rfl rfl) h5
  exact walk W la lc l lT ll ls s sa sc sI sl ta tc t tI tl h ho m mo b bo
end ShopLater
/-! The step from the walk to the row of ShopLater. -/
namespace ShopLater
set_option maxRecDepth 100000 in
theorem lifted (os : Os) (started : os.Started) (H : Type) (enc : TypeId × Value → H) :
    ReturnsInHanded {} Try.checked os 6 .any (Rows.shopLaterSpec.pre6 enc Try.prog Try.f6 Rows.shopLaterRow.domain false) (Rows.shopLaterSpec.post enc Try.prog Try.f6 false true false false) := by
  refine returnsInHanded_of_change (C := Try.checked) own started (by kernel_rfl) Try.func6
    (ChangeSpec.witness6 (enc := enc) (C := Try.checked) false ⟨#[], #[.slice none 0 0, .agg #[.slice none 0 0, .int .i64 0], .slice none 0 0, .int .u16 0, .int .u8 0, .int .u8 0], []⟩ 8 (by kernel_rfl) (by kernel_rfl) (by kernel_rfl) (by kernel_rfl)) ?_
  intro W base args ds gs before hval0 hW hcnd _
  have hval : ∀ (j : Nat) t v, Try.f6.params[j]? = some t → args[j]? = some v → Value.okWide Try.prog W .any base t v := hval0
  have hW' := hW
  obtain ⟨p, q, hA0, hV, rfl, hfz, hnd⟩ := hW
  have hA : DataW.TrodAll enc Try.prog W 0 (fun _ => true) true Try.f6.params.toList args.toList ds p := hA0
  obtain ⟨rfl, rfl⟩ := trodVars_none hV
  have hlen := trodAll_len _ _ _ _ hA
  obtain ⟨d0, d1, d2, d3, d4, d5, rfl⟩ : ∃ d0 d1 d2 d3 d4 d5, ds = [d0, d1, d2, d3, d4, d5] := by
    rw [Try.params6] at hlen
    exact list6 hlen
  refine (entry H enc W base args [d0, d1, d2, d3, d4, d5] p hval hA).mono fun e W' ⟨he, bel⟩ => ?_
  subst he
  exact ⟨_, rfl, _, _, _, [], _, [], hW', trodAll_mk1 (shut_bool Try.underlying4 _), readback laidOut _ _ _ _ (by rw [Try.params6]; exact of_decide_eq_true (by kernel_rfl)) hA bel, rfl, bel.frame _, fun h => by cases h⟩

theorem over : Rows.shopLaterRow.holds Try.pinned (OpenSpec.ofChange Rows.shopLaterSpec) :=
  OpenClaim.holds_of_wide 6 Try.f6 rfl rfl rfl rfl rfl rfl rfl ⟨rfl, rfl, rfl, rfl, rfl⟩ rfl rfl rfl rfl rfl (by kernel_rfl) Try.func6 (by kernel_rfl)
    (of_decide_eq_true (by kernel_rfl)) (by unfold Func.isWrapper; first | (rw [if_pos (by decide +kernel)]; kernel_rfl) | (rw [if_neg (by decide +kernel)]; exact ⟨rfl, rfl⟩))
    (fun os started H enc _ => lifted os started H enc)

/-- THE STATEMENT -/
theorem proved : Rows.ShopLaterSaid := over
end ShopLater
#print axioms ShopLater.proved
end Go.Proofs.Ytoblmecgnpoogaa
