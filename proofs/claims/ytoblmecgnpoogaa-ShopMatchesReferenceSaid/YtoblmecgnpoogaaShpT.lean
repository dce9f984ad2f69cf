

/- Package shop: Plan: the closure over the After, the region that releases, an hour's list that grows. -/
import Derived.Test.YtoblmecgnpoogaaShpS
namespace Go.Proofs.Ytoblmecgnpoogaa
open Go.RowKit

theorem plan2_any (dn : List Bool) (Dn Pd B : Nat) (k : Nat) (w : World) (hO : OwnB w B Dn dn) (hk : k < dn.length) (cp : w.cell? ⟨Pd, 0, none⟩ = some (.slice (some ⟨Dn, 0, none⟩) dn.length dn.length)) :
    Calls Try.prog 30 #[.int .i64 k, .pointer (some ⟨Pd, 0, none⟩)] w (RetS (.bool (!bg dn k)) w) := by
  have cd := hO.cell hk
  obtain ⟨n, hn⟩ : ∃ n, n = dn.length := ⟨_, rfl⟩
  rw [← hn] at cp hk
  obtain ⟨b, hb⟩ : ∃ b, b = bg dn k := ⟨_, rfl⟩
  rw [← hb] at cd ⊢
  have n1 : (k : Int) < (n : Int) := by omega
  have n0 : (0 : Int) ≤ (k : Int) := by omega
  clear hO hn hb hk
  cases b <;> (
    go_enter Try.func30, Try.ntmps30
    go_wp2_with fail
    go_ret
    exact retS rfl)
theorem pwaits_any {l : List Tk} (hv : VT l) {i : Nat} (hi : i < l.length) (dn : List Bool) (Dn Pd B : Nat) (hd : dn.length = l.length) (a : Option Addr) (cap : Nat) (w : World) (hI : Ints w a (tg l i).after) (hO : OwnB w B Dn dn)
    (cp : w.cell? ⟨Pd, 0, none⟩ = some (.slice (some ⟨Dn, 0, none⟩) dn.length dn.length)) :
    Calls Try.prog 29 #[.slice a (tg l i).after.length cap, .func (.func 30) #[] #[.pointer (some ⟨Pd, 0, none⟩)]] w (RetS (.bool (!allDone dn (tg l i).after)) w) := by
  have e : (!allDone dn (tg l i).after) = (tg l i).after.any fun k => !bg dn k.toNat := by
    unfold allDone
    rw [List.not_all_eq_any_not]
  rw [e]
  refine contains_plan (tg l i).after (fun k => !bg dn k.toNat) _ a cap w hI (by have := after_len hv hi; omega) fun r hr => ?_
  obtain ⟨m, hm, hml⟩ := good_mem ((hv.2 i hi).2.2.2.2) hr
  rw [hm, Int.toNat_natCast]
  exact plan2_any dn Dn Pd B m w hO (by omega) cp
/-- the region that releases: what has been done of it -/
structure J19 (B : Nat) (w0 : World) (K : Blk) (sa : Option Addr) (q sc : Nat) (bs : Int) (st : List Int) (be D : List Bool) (mm : Nat) (x y : Ld) (hs : List Int) (g off cap : Nat) (F : Int → Option (Nat × Nat × List Int)) (nm : Nat) (l8 l10 : Bool) (w : World) : Prop where
  fx : Fix w B K sa q sc bs st be (if l10 then D.set mm true else D) (if l8 then y else x)
  dy : Dyn w B K hs g off cap F nm
  bl : Below B w0 w
section
variable {B : Nat} {w0 : World} {K : Blk} {sa : Option Addr} {q sc : Nat} {bs : Int} {st : List Int} {be D : List Bool} {mm : Nat} {x y : Ld} {hs : List Int} {g off cap : Nat} {F : Int → Option (Nat × Nat × List Int)} {nm : Nat} {l8 l10 : Bool} {w w' : World}
theorem J19.later (h : J19 B w0 K sa q sc bs st be D mm x y hs g off cap F nm l8 l10 w) (hb : Below w.heap.size w w') (hB : B ≤ w.heap.size) : J19 B w0 K sa q sc bs st be D mm x y hs g off cap F nm l8 l10 w' :=
  ⟨h.fx.later hb, h.dy.later hb, h.bl.trans (hb.mono hB)⟩
theorem Fix.size (h : Fix w B K sa q sc bs st be D x) : B ≤ w.heap.size := by
  have h1 := h.lo K.Y (by simp [Blk.l])
  have h2 := h.lt K.Y (by simp [Blk.l])
  omega
theorem J19.store8 (h : J19 B w0 K sa q sc bs st be D mm x y hs g off cap F nm false l10 w) : J19 B w0 K sa q sc bs st be D mm x y hs g off cap F nm true l10 (w.setCells K.Y 0 (ldC y)) := by
  have hc : Chg (fun j => j = K.Y) w (w.setCells K.Y 0 (ldC y)) := chg_setCells (S := fun j => j = K.Y) (Chg.refl _ w) K.Y 0 _ (fun _ => rfl)
  have hne := h.fx.ne.2.2.2.2.2
  refine ⟨h.fx.setY y, h.dy.chg hc (fun b e => by subst e; exact ⟨by simp [Blk.l], fun e' => hne e'.symm⟩), h.bl.trans (hc.below h.fx.size fun j e => by subst e; exact h.fx.lo _ (by simp [Blk.l]))⟩
theorem J19.store10 (h : J19 B w0 K sa q sc bs st be D mm x y hs g off cap F nm l8 false w) : J19 B w0 K sa q sc bs st be D mm x y hs g off cap F nm l8 true (w.setCell ⟨K.Dn, mm, none⟩ (.bool true)) := by
  have hc : Chg (fun j => j = K.Dn) w (w.setCell ⟨K.Dn, mm, none⟩ (.bool true)) := chg_one w ⟨K.Dn, mm, none⟩ _
  have hne := h.fx.ne.2.2.2.1.2.1
  refine ⟨h.fx.setDn mm true, h.dy.chg hc (fun b e => by subst e; exact ⟨by simp [Blk.l], hne⟩), h.bl.trans (hc.below h.fx.size fun j e => by subst e; exact h.fx.lo _ (by simp [Blk.l]))⟩
/-- the cell of done's box -/
theorem J19.c10 (h : J19 B w0 K sa q sc bs st be D mm x y hs g off cap F nm l8 l10 w) : w.cell? ⟨K.Pd, 0, none⟩ = some (.slice (some ⟨K.Dn, 0, none⟩) D.length D.length) := by
  have := (h.fx.pd 0 _ rfl).1
  cases l10
  · exact this
  · simp only [if_true, List.length_set] at this
    exact this
end
/-- append one number: where it lies afterwards -/
theorem append_int_at (w : World) {ops : Array Oper} {rest : List Oper} {o : Oper} {a : Act} {Q : Exit → Act → World → Prop} (hgd : o.guard = none) (s x : Operand)
    (ho : o.op = .call { callee := .builtin .append, args := #[s, x], argTypes := #[23, 23] }) (B : Nat) (v : Value) (l : List Int) (y : Int) (hs : a.eval s = v) (hown : OwnI w B v l)
    (b c : Nat) (hx : a.eval x = .slice (some ⟨b, 0, none⟩) 1 c) (hc : w.cell? ⟨b, 0, none⟩ = some (.int .i64 y)) (hl : l.length + 1 ≤ 1000000000000) (hB : B ≤ w.heap.size)
    (h : ∀ v' w', OwnI w' B v' (l ++ [y]) → w.grownBy w' v.ownBlock → (∀ b, v'.ownBlock = some b → v.ownBlock = some b ∨ w.heap.size ≤ b) → wpList Try.prog ops Q rest (a.put o.dst v') w') : wpList Try.prog ops Q (o :: rest) a w := by
  obtain ⟨i0, hi, hz0, hz1, hz2⟩ := info_parts info_int
  refine wpList_append_at hgd s x 23 ho B 3 i0 (.int .i64 0) 1 8 Try.underlying23 hi hz0 hz1 hz2 rfl (by decide) v l.length _ hs hown ⟨b, 0, none⟩ 1 c [.int .i64 y] hx rfl ?_ ?_ (by unfold maxLen; omega) (by omega) hB fun v' w' h1 h2 h3 => h v' w' ?_ h2 h3
  · intro j u hu
    match j, hu with
    | 0, hu => simp at hu; subst hu; simpa [Addr.add] using hc
  · intro u hu
    simp at hu
    subst hu
    rfl
  · unfold OwnI
    simpa using h1
theorem EnL.len {l : List Tk} {st : List Int} {be dn : List Bool} {G : Int → List Int} (h : EnL l st be dn G) (y : Int) : (G y).length ≤ l.length := by
  have := nodup_le (h.nd y) (b := upTo l.length) fun x hx => by
    obtain ⟨k, rfl, hk, _⟩ := (h.mem y x).1 hx
    rw [← upTo_ig hk]
    exact ig_mem (by rw [upTo_len]; exact hk)
  rwa [upTo_len] at this
/-- what loop 3 keeps of the world -/
structure K3 (B : Nat) (w0 : World) (K : Blk) (sa : Option Addr) (q sc : Nat) (bs : Int) (l : List Tk) (st : List Int) (be dn : List Bool) (hs : List Int) (g off cap : Nat) (F : Int → Option (Nat × Nat × List Int)) (nm : Nat) (w : World) : Prop where
  fx : Fix w B K sa q sc bs st be dn (loadP l (runB be dn) l.length)
  dy : Dyn w B K hs g off cap F nm
  bl : Below B w0 w
  en : EnL l st be dn (getE F)
theorem K3.later {B : Nat} {w0 : World} {K : Blk} {sa : Option Addr} {q sc : Nat} {bs : Int} {l : List Tk} {st : List Int} {be dn : List Bool} {hs : List Int} {g off cap : Nat} {F : Int → Option (Nat × Nat × List Int)} {nm : Nat} {w w' : World}
    (h : K3 B w0 K sa q sc bs l st be dn hs g off cap F nm w) (hb : Below w.heap.size w w') : K3 B w0 K sa q sc bs l st be dn hs g off cap F nm w' :=
  ⟨h.fx.later hb, h.dy.later hb, h.bl.trans (hb.mono h.fx.size), h.en⟩
theorem OwnI.cell {w : World} {B g cap : Nat} {l : List Int} (h : OwnI w B (.slice (some ⟨g, 0, none⟩) l.length cap) l) {j : Nat} (hj : j < l.length) : w.cell? ⟨g, j, none⟩ = some (.int .i64 (ig l j)) := by
  rw [World.ownsRow.cellAt h j (by omega)]
  simp [hj, ig]
theorem OwnI.free {w : World} {B g cap : Nat} {l : List Int} (h : OwnI w B (.slice (some ⟨g, 0, none⟩) l.length cap) l) (j : Nat) : w.frozen? ⟨g, j, none⟩ = false := World.ownsRow.frozenAt h j
theorem beg_world {B : Nat} {w0 : World} {K : Blk} {sa : Option Addr} {q sc : Nat} {bs : Int} {st : List Int} {be dn : List Bool} {hs : List Int} {g off cap : Nat} {F : Int → Option (Nat × Nat × List Int)} {nm : Nat} {w : World} {x : Ld} (y : Ld) (i : Nat) (hour : Int)
    (fx : Fix w B K sa q sc bs st be dn x) (dy : Dyn w B K hs g off cap F nm) (bl : Below B w0 w) :
    Fix (((w.setCells K.Y 0 (ldC y)).setCell ⟨K.Bg, i, none⟩ (.bool true)).setCell ⟨K.A, i, none⟩ (.int .i64 hour)) B K sa q sc bs (st.set i hour) (be.set i true) dn y ∧
    Dyn (((w.setCells K.Y 0 (ldC y)).setCell ⟨K.Bg, i, none⟩ (.bool true)).setCell ⟨K.A, i, none⟩ (.int .i64 hour)) B K hs g off cap F nm ∧
    Below B w0 (((w.setCells K.Y 0 (ldC y)).setCell ⟨K.Bg, i, none⟩ (.bool true)).setCell ⟨K.A, i, none⟩ (.int .i64 hour)) ∧
    Chg (fun j => j ∈ K.l ∧ j ≠ K.M) w (((w.setCells K.Y 0 (ldC y)).setCell ⟨K.Bg, i, none⟩ (.bool true)).setCell ⟨K.A, i, none⟩ (.int .i64 hour)) := by
  obtain ⟨_, ⟨_, _, _, a, _⟩, ⟨_, _, b, _⟩, _, _, c⟩ := fx.ne
  have hc : Chg (fun j => j ∈ K.l ∧ j ≠ K.M) w (((w.setCells K.Y 0 (ldC y)).setCell ⟨K.Bg, i, none⟩ (.bool true)).setCell ⟨K.A, i, none⟩ (.int .i64 hour)) := by
    refine Chg.setCell (Chg.setCell (chg_setCells (Chg.refl _ w) K.Y 0 _ (fun _ => ?_)) (fun _ => ?_) _) (fun _ => ?_) _
    · exact ⟨by simp [Blk.l], fun e => c e.symm⟩
    · exact ⟨by simp [Blk.l], b⟩
    · exact ⟨by simp [Blk.l], a⟩
  refine ⟨((fx.setY y).setBg i true).setA i hour, dy.chg hc (fun b hb => hb), bl.trans (hc.below fx.size fun j hj => fx.lo _ hj.1), hc⟩
theorem beg_worldE {B : Nat} {w0 : World} {K : Blk} {sa : Option Addr} {q sc : Nat} {bs : Int} {st : List Int} {be dn : List Bool} {hs : List Int} {g off cap : Nat} {F : Int → Option (Nat × Nat × List Int)} {nm : Nat} {w : World} {x : Ld} (y : Ld) (i : Nat) (hour : Int)
    (fx : Fix w B K sa q sc bs st be dn x) (dy : Dyn w B K hs g off cap F nm) (bl : Below B w0 w) :
    ∃ w', w' = ((w.setCells K.Y 0 (ldC y)).setCell ⟨K.Bg, i, none⟩ (.bool true)).setCell ⟨K.A, i, none⟩ (.int .i64 hour) ∧ Fix w' B K sa q sc bs (st.set i hour) (be.set i true) dn y ∧ Dyn w' B K hs g off cap F nm ∧ Below B w0 w' ∧ Chg (fun j => j ∈ K.l ∧ j ≠ K.M) w w' :=
  ⟨_, rfl, beg_world y i hour fx dy bl⟩
theorem Dyn.own_blk {w : World} {B : Nat} {k : Blk} {hs : List Int} {g off cap nm : Nat} {F : Int → Option (Nat × Nat × List Int)} (h : Dyn w B k hs g off cap F nm) {y : Int} {b : Nat} (e : ((endF F (.int .i64 y)).getD (.slice none 0 0)).ownBlock = some b) : b ∉ k.l ∧ B ≤ b := by
  have hob : ((endF F (.int .i64 y)).getD (.slice none 0 0)).ownBlock = (F y).map (·.1) := by
    show (Option.getD ((F y).map slV) (.slice none 0 0)).ownBlock = _
    cases F y <;> rfl
  rw [hob] at e
  obtain ⟨q, hq, e'⟩ := Option.map_eq_some_iff.1 e
  exact ⟨by rw [← e']; exact (h.gF y q hq).2, by rw [← e']; exact (World.ownsRow.lt (h.own y q hq) _ rfl).1⟩
theorem Dyn.mAfter {w w1 : World} {B : Nat} {k : Blk} {hs : List Int} {g off cap nm : Nat} {F : Int → Option (Nat × Nat × List Int)} (h : Dyn w B k hs g off cap F nm) {y : Int} {v : Value} (hv : (endF F (.int .i64 y)).getD (.slice none 0 0) = v) (hg : w.grownBy w1 v.ownBlock) : MapIs Try.prog 3 w1 k.M nm (endF F) := by
  subst hv
  have hc1 : Chg (fun j => ((endF F (.int .i64 y)).getD (.slice none 0 0)).ownBlock = some j) w w1 := (Chg.refl _ w).grown hg (fun j hj _ => hj)
  exact hc1.map h.m (fun e => (h.own_blk e).1 (by simp [Blk.l]))
theorem cntB_set {l : List Tk} {be : List Bool} {i : Nat} (hbl : be.length = l.length) (hi : i < l.length) (hb : bg be i = false) : cntB l (be.set i true) = cntB l be + 1 :=
  cntP_set hb (by rw [bg_setN (by rw [hbl]; exact hi), if_pos rfl]) hi fun k _ hk => by rw [bg_setN (by rw [hbl]; exact hi), if_neg (fun e => hk e.symm)]
/-- one begun: what the round leaves -/
theorem K3.begin {B : Nat} {w0 : World} {K : Blk} {sa : Option Addr} {q sc : Nat} {bs : Int} {l : List Tk} {st : List Int} {be dn : List Bool} {hs : List Int} {g off cap : Nat} {F : Int → Option (Nat × Nat × List Int)} {nm : Nat} {w w1 w2 : World} {i : Nat} {hour en : Int} {y : Ld} {v' : Value}
    (hv : VT l) (hi : i < l.length) (hsl : st.length = l.length) (hbl : be.length = l.length) (hb : bg be i = false) (hdi : bg dn i = false) (hen : en = hour + (tg l i).hours)
    (hy : y = addL (loadP l (runB be dn) l.length) (tg l i).skill.toNat (tg l i).bay 1) (he : EnL l st be dn (getE F))
    (fx : Fix w B K sa q sc bs (st.set i hour) (be.set i true) dn y) (dy : Dyn w B K hs g off cap F nm) (bl : Below B w0 w)
    (ho : OwnI w1 B v' (getE F en ++ [(i : Int)])) (hg : w.grownBy w1 (((endF F (.int .i64 en)).getD (.slice none 0 0)).ownBlock))
    (hn : ∀ b, v'.ownBlock = some b → ((endF F (.int .i64 en)).getD (.slice none 0 0)).ownBlock = some b ∨ w.heap.size ≤ b)
    (hm : MapIs Try.prog 3 w2 K.M (nm + 1) (putF (endF F) (.int .i64 en) v')) (hg2 : w1.grownBy w2 (some K.M)) :
    ∃ F' nm', K3 B w0 K sa q sc bs l (st.set i hour) (be.set i true) dn hs g off cap F' nm' w2 := by
  obtain ⟨qq, hq, hd⟩ := dy.add fx.lt ho hg hn hm hg2
  have hc1 : Chg (fun j => ((endF F (.int .i64 en)).getD (.slice none 0 0)).ownBlock = some j) w w1 := (Chg.refl _ w).grown hg (fun j hj _ => hj)
  have fx1 := fx.chg hc1 (fun b hb e => (dy.own_blk e).1 hb)
  have hc2 := grown_chg hg2
  have hMB : B ≤ K.M := fx.lo _ (by simp [Blk.l])
  refine ⟨_, _, ⟨?_, hd, (bl.trans (hc1.below fx.size fun j e => (dy.own_blk e).2)).trans (hc2.below fx1.size fun j e => by rw [e]; exact hMB), ?_⟩⟩
  · rw [load_begin hv hi hbl hb hdi, ← hy]
    exact fx1.chgM hc2
  · have h := he.begin (hour := hour) hi hsl hbl hb hdi
    have e : (fun z => if z = hour + (tg l i).hours then getE F z ++ [(i : Int)] else getE F z) = getE (putE F en (some qq)) := by
      funext z
      rw [← hen]
      by_cases hz : z = en
      · subst hz
        rw [if_pos rfl]
        unfold getE putE
        simp only [if_true]
        rw [hq]
        rfl
      · rw [if_neg hz]
        unfold getE putE
        simp only [hz, if_false]
    rw [e] at h
    exact h
end Go.Proofs.Ytoblmecgnpoogaa
