

/- Package judge: the closure 'reach'. -/
import Derived.Test.YtgccankekflchaaJdgI
namespace Go.Proofs.Ytgccankekflchaa
open Go.RowKit

/-- what the closure works on: the map of positions, the map of what was reached, what is left to do -/
structure Rea (w : World) (fpos : Value → Option Value) (P D T mp md B : Nat) (Dn todo : List St) (v : Value) : Prop where
  cP : w.cell? ⟨P, 0, none⟩ = some (.map (some mp))
  mP : ∃ n, MapIs Try.prog 76 w mp n fpos
  cD : w.cell? ⟨D, 0, none⟩ = some (.map (some md))
  mD : ∃ n, MapIs Try.prog 76 w md n (doneF Dn)
  cT : w.cell? ⟨T, 0, none⟩ = some v
  fT : w.frozen? ⟨T, 0, none⟩ = false
  own : OwnS w B v todo
  size : B ≤ w.heap.size
theorem Rea.later {w w1 : World} {fpos : Value → Option Value} {P D T mp md B : Nat} {Dn todo : List St} {v : Value} (h : Rea w fpos P D T mp md B Dn todo v) (hb : Below w.heap.size w w1) : Rea w1 fpos P D T mp md B Dn todo v := by
  obtain ⟨c1, ⟨n1, m1⟩, c2, ⟨n2, m2⟩, c3, f3, o, z⟩ := h
  exact ⟨cell_later hb c1, ⟨n1, m1.later hb⟩, cell_later hb c2, ⟨n2, m2.later hb⟩, cell_later hb c3, (hb.frozen (World.block_lt_of_cell? _ _ c3)).trans f3, o.later hb, Nat.le_trans z hb.size⟩
structure Apt (P D T mp md B : Nat) : Prop where
  hp : P < B
  hd : D < B
  ht : T < B
  hmp : mp < B
  hmd : md < B
  tp : P ≠ T
  td : D ≠ T
  mm : mp ≠ md
  pm : P ≠ md
  dm : D ≠ md
  tm : T ≠ md
  mt : mp ≠ T
def okB (plan : List Pos) (b : Int) (x : St) : Bool := match posAt plan x with | none => false | some p => decide (0 ≤ p.bound) && decide (p.bound ≤ b)
def reachB (plan : List Pos) (s : St) (b : Int) : Bool := (madeL s).all (okB plan b)
abbrev SR (md T : Nat) (v : Value) : Nat → Prop := fun k => k = md ∨ k = T ∨ v.ownBlock = some k
def RchR (plan : List Pos) (fpos : Value → Option Value) (P D T mp md B : Nat) (Dn todo : List St) (v : Value) (s : St) (b : Int) (w : World) (e : Ending) (w' : World) : Prop :=
  e = .returned (.bool (reachB plan s b)) ∧ Chg (SR md T v) w w' ∧ (reachB plan s b = true → ∃ v', Rea w' fpos P D T mp md B (Dn ++ fresh Dn (madeL s)) (todo ++ fresh Dn (madeL s)) v')

theorem okB_none {plan : List Pos} {b : Int} {x : St} (h : posAt plan x = none) : okB plan b x = false := by unfold okB; rw [h]
theorem okB_some {plan : List Pos} {b : Int} {x : St} {p : Pos} (h : posAt plan x = some p) : okB plan b x = (decide (0 ≤ p.bound) && decide (p.bound ≤ b)) := by unfold okB; rw [h]
theorem reachB_no {plan : List Pos} {s : St} {b : Int} {i : Nat} (hi : i < (madeL s).length) (h : okB plan b (madeL s)[i] = false) : reachB plan s b = false := by
  unfold reachB
  rw [List.all_eq_false]
  exact ⟨_, List.getElem_mem hi, by simp [h]⟩
theorem rch_no {plan : List Pos} {fpos : Value → Option Value} {P D T mp md B : Nat} {Dn todo : List St} {v : Value} {s : St} {b : Int} {w w' : World} {i : Nat} (hi : i < (madeL s).length) (h : okB plan b (madeL s)[i] = false) (hc : Chg (SR md T v) w w') :
    RchR plan fpos P D T mp md B Dn todo v s b w (.returned (.bool false)) w' :=
  ⟨by rw [reachB_no hi h], hc, fun h' => by rw [reachB_no hi h] at h'; cases h'⟩
theorem fresh_take (D l : List St) {i : Nat} (hi : i < l.length) : fresh D (l.take (i + 1)) = if l[i] ∈ D ++ fresh D (l.take i) then fresh D (l.take i) else fresh D (l.take i) ++ [l[i]] := by
  rw [List.take_succ_eq_append_getElem hi, fresh_snoc]
/-- the region that adds a situation -/
structure R8 (w0 : World) (D T md B t9 : Nat) (x : St) (f : Value → Option Value) (v0 : Value) (todo : List St) (b4 b5 : Value) (l4 l5 l6 l7 : Bool) (w : World) : Prop where
  chg : Chg (SR md T v0) w0 w
  map : ∃ n, MapIs Try.prog 76 w md n (if l6 then putF f (sitV x) (.bool true) else f)
  cell : w.cell? ⟨T, 0, none⟩ = some (if l7 then b5 else v0)
  fro : w.frozen? ⟨T, 0, none⟩ = false
  box : l4 = true → ∃ n, b4 = .slice (some ⟨n, 0, none⟩) 1 1 ∧ w0.heap.size ≤ n ∧ BoxAt w n (sitC x)
  own : OwnS w B (if l5 then b5 else v0) (if l5 then todo ++ [x] else todo)
  nb : l5 = true → ∀ b, b5.ownBlock = some b → v0.ownBlock = some b ∨ w0.heap.size ≤ b

theorem OwnS.shape {w : World} {B : Nat} {v : Value} {l : List St} (h : OwnS w B v l) : ∃ oa n c, v = .slice oa n c := by
  rcases h.2 with ⟨e, _⟩ | ⟨g, cap, cur, e, _⟩
  · exact ⟨_, _, _, e⟩
  · exact ⟨_, _, _, e⟩
theorem wp_append_sit {w : World} {o : Oper} {a : Act} {K : Act → World → Prop} {Q : Exit → Act → World → Prop} (s x : Operand)
    (ho : o.op = .call { callee := .builtin .append, args := #[s, x], argTypes := #[80, 80] }) (B : Nat) (v : Value) (l : List St) (y : St) (hs : a.eval s = v) (hown : OwnS w B v l)
    (b c : Nat) (hx : a.eval x = .slice (some ⟨b, 0, none⟩) 1 c) (hc : BoxAt w b (sitC y)) (hl : l.length + 1 ≤ 100000000000) (hB : B ≤ w.heap.size)
    (h : ∀ v' w', OwnS w' B v' (l ++ [y]) → w.grownBy w' v.ownBlock → (∀ b, v'.ownBlock = some b → v.ownBlock = some b ∨ w.heap.size ≤ b) → K (a.put o.dst v') w') : o.wp Try.prog a w K Q := by
  obtain ⟨i0, hi, hz0, hz1, hz2⟩ := info_parts info_sit
  refine wp_append_at s x 80 ho B 76 i0 (sit10 0 0 0 0 0 0 0 0 0 0) 10 80 Try.underlying80 hi hz0 hz1 hz2 rfl (by decide) v l.length _ hs hown ⟨b, 0, none⟩ 1 c (sitC y) hx rfl ?_ ?_ (by unfold maxLen; omega) (by omega) hB fun v' w' h1 h2 h3 => h v' w' ?_ h2 h3
  · intro j u hu
    have := (hc j u hu).1
    by_cases h0 : j = 0
    · subst h0; simpa [Addr.add] using this
    · simpa [Addr.add, h0] using this
  · intro u hu
    simp only [sitC, List.mem_cons, List.not_mem_nil, or_false] at hu
    rcases hu with rfl | rfl | rfl | rfl | rfl | rfl | rfl | rfl | rfl | rfl <;> rfl
  · unfold OwnS
    simpa using h1
section
variable {w0 w w' : World} {D T md B t9 : Nat} {x : St} {f : Value → Option Value} {v0 : Value} {todo : List St} {b4 b5 : Value} {l4 l5 l6 l7 : Bool}
theorem R8.start {fpos : Value → Option Value} {P mp : Nat} {Dn : List St} (h : Rea w0 fpos P D T mp md B Dn todo v0) : R8 w0 D T md B t9 x (doneF Dn) v0 todo b4 b5 false false false false w0.drew :=
  ⟨(Chg.refl _ _).drew, h.mD, h.cT, h.fT, fun e => (by cases e), h.own, fun e => (by cases e)⟩
theorem R8.new (h : R8 w0 D T md B t9 x f v0 todo b4 b5 false false l6 false w) : R8 w0 D T md B t9 x f v0 todo (.slice (some ⟨w.heap.size, 0, none⟩) 1 1) b5 true false l6 false (w.alloc (.cells (sitC x).toArray 76)) := by
  obtain ⟨c, ⟨n, m⟩, ce, fr, _, o, _⟩ := h
  have hb : Below w.heap.size w (w.alloc (.cells (sitC x).toArray 76)) := (Below.refl _ _).alloc (Nat.le_refl _) _
  exact ⟨c.alloc _, ⟨n, m.alloc _⟩, cell_later hb ce, (hb.frozen (World.block_lt_of_cell? _ _ ce)).trans fr, fun _ => ⟨_, rfl, c.size, BoxAt.new _ _ _⟩, o.later hb, fun e => by cases e⟩
theorem R8.appended {v' : Value} (hv : ∀ b, v0.ownBlock = some b → B ≤ b ∧ b < w0.heap.size) (hT : T < B) (hmd : md < B) (h : R8 w0 D T md B t9 x f v0 todo b4 b5 true false l6 false w) (ho : OwnS w' B v' (todo ++ [x])) (hg : w.grownBy w' v0.ownBlock)
    (hn : ∀ b, v'.ownBlock = some b → v0.ownBlock = some b ∨ w.heap.size ≤ b) : R8 w0 D T md B t9 x f v0 todo b4 v' true true l6 false w' := by
  obtain ⟨c, ⟨n, m⟩, ce, fr, bx, o, _⟩ := h
  have hne : ∀ k, k < B → some k ≠ v0.ownBlock := fun k hk e => by have := hv k e.symm; omega
  refine ⟨c.grown hg fun k hk _ => .inr (.inr hk), ⟨n, m.block (hg.block _ m.lt (hne _ hmd))⟩, hg.cell ce (hne _ hT), (World.frozen?_of_block (hg.block _ (World.block_lt_of_cell? _ _ ce) (hne _ hT))).trans fr, fun _ => ?_, ho, fun _ b hb => ?_⟩
  · obtain ⟨n, e, hlt, hbx⟩ := bx rfl
    have hn' : some n ≠ v0.ownBlock := fun e' => by have := hv n e'.symm; omega
    refine ⟨n, e, hlt, fun o' u hu => ⟨hg.cell (hbx o' u hu).1 hn', ?_⟩⟩
    exact (World.frozen?_of_block (hg.block _ (World.block_lt_of_cell? _ _ (hbx o' u hu).1) hn')).trans (hbx o' u hu).2
  · rcases hn b hb with h | h
    · exact .inl h
    · exact .inr (Nat.le_trans c.size h)
theorem R8.put' (hmd : md < B) (htm : T ≠ md) (hB : B ≤ w0.heap.size) (h : R8 w0 D T md B t9 x f v0 todo b4 b5 l4 l5 false l7 w) {n : Nat} (hm : MapIs Try.prog 76 w' md n (putF f (sitV x) (.bool true))) (hg : w.grownBy w' (some md)) :
    R8 w0 D T md B t9 x f v0 todo b4 b5 l4 l5 true l7 w' := by
  obtain ⟨c, _, ce, fr, bx, o, nb⟩ := h
  have hne : ∀ k, k ≠ md → some k ≠ some md := fun k hk e => hk (Option.some.inj e)
  refine ⟨c.grown hg fun k hk _ => .inl (Option.some.inj hk).symm, ⟨n, hm⟩, hg.cell ce (hne _ htm), (World.frozen?_of_block (hg.block _ (World.block_lt_of_cell? _ _ ce) (hne _ htm))).trans fr, fun e => ?_, ?_, nb⟩
  · obtain ⟨n, e, hlt, hbx⟩ := bx e
    have hn' : some n ≠ some md := hne _ (by omega)
    refine ⟨n, e, hlt, fun o' u hu => ⟨hg.cell (hbx o' u hu).1 hn', ?_⟩⟩
    exact (World.frozen?_of_block (hg.block _ (World.block_lt_of_cell? _ _ (hbx o' u hu).1) hn')).trans (hbx o' u hu).2
  · refine World.ownsRow.kept o hg ?_
    cases e : (if l5 = true then b5 else v0).ownBlock with
    | none => exact .inl rfl
    | some k =>
      refine .inr fun e' => ?_
      have := (World.ownsRow.lt o k e).1
      have := Option.some.inj e'
      omega
theorem R8.stored (hT : T < B) (htm : T ≠ md) (hB : B ≤ w0.heap.size) (h : R8 w0 D T md B t9 x f v0 todo b4 b5 true true l6 false w) : R8 w0 D T md B t9 x f v0 todo b4 b5 true true l6 true (w.setCell ⟨T, 0, none⟩ b5) := by
  obtain ⟨c, ⟨n, m⟩, ce, fr, bx, o, nb⟩ := h
  refine ⟨c.setCell (fun _ => .inr (.inl rfl)) _, ⟨n, m.setCell (fun e => htm e.symm) _⟩, World.cell?_setCell_same _ _ _ ce, by rw [World.frozen?_setCell]; exact fr, fun e => ?_, ownsRow_setCell_below o hT _, nb⟩
  obtain ⟨n, e, hlt, hbx⟩ := bx e
  exact ⟨n, e, hlt, hbx.other (vs := [b5]) (by omega)⟩
theorem R8.done {fpos : Value → Option Value} {P mp : Nat} {Dn : List St} (hA : Apt P D T mp md B) (hr : Rea w0 fpos P D T mp md B Dn todo v0) (h : R8 w0 D T md B t9 x (doneF Dn) v0 todo b4 b5 true true true true w) :
    Rea w fpos P D T mp md B (Dn ++ [x]) (todo ++ [x]) b5 ∧ Chg (SR md T v0) w0 w ∧ ∀ b, b5.ownBlock = some b → v0.ownBlock = some b ∨ w0.heap.size ≤ b := by
  obtain ⟨c, ⟨n, m⟩, ce, fr, bx, o, nb⟩ := h
  obtain ⟨ahp, ahd, aht, ahmp, ahmd, atp, atd, amm, apm, adm, atm, amt⟩ := hA
  have hv : ∀ b, v0.ownBlock = some b → B ≤ b := fun b hb => (World.ownsRow.lt hr.own b hb).1
  obtain ⟨n1, m1⟩ := hr.mP
  have hS : ∀ k, k < B → k ≠ md → k ≠ T → ¬ SR md T v0 k := fun k h1 h2 h3 h4 => by
    rcases h4 with h4 | h4 | h4
    · exact h2 h4
    · exact h3 h4
    · have := hv _ h4; omega
  exact ⟨⟨c.cell hr.cP (hS _ ahp apm atp), ⟨n1, c.map m1 (hS _ ahmp amm amt)⟩, c.cell hr.cD (hS _ ahd adm atd), ⟨n, m.congr (doneF_put Dn x)⟩, ce, fr, o, Nat.le_trans hr.size c.size⟩, c, nb rfl⟩
end
set_option maxRecDepth 100000 in
set_option maxHeartbeats 4000000 in
theorem reach_any (plan : List Pos) (fpos : Value → Option Value) (P D T mp md B : Nat) (Dn todo : List St) (v : Value) (s : St) (b : Int) (w : World) (hA : Apt P D T mp md B) (hR : Rea w fpos P D T mp md B Dn todo v)
    (hP : PosMap fpos plan) (hf : Fit6 s) (hbu : s.budget ≤ 1000000) (hD : ∀ x ∈ Dn, Fit6 x) (hx : ∀ x ∈ madeL s, Fit6 x) (hk : ∀ x ∈ madeL s, ∃ l, keyOf Try.prog 76 (sitV x) = some l) (hl : todo.length ≤ 1000000) :
    Calls Try.prog 34 #[sitV s, .int .i64 b, .pointer (some ⟨P, 0, none⟩), .pointer (some ⟨D, 0, none⟩), .pointer (some ⟨T, 0, none⟩)] w (RchR plan fpos P D T mp md B Dn todo v s b w) := by
  have hA' := id hA
  obtain ⟨ahp, ahd, aht, ahmp, ahmd, atp, atd, amm, apm, adm, atm, amt⟩ := hA'
  have HP := Lib.hid hP
  have HD := Lib.hid hD
  obtain ⟨L, hL⟩ : ∃ L, L = madeL s := ⟨_, rfl⟩
  have h1 : 1 ≤ L.length := by rw [hL]; simp [madeL]
  have h7 : L.length ≤ 7 := by
    rw [hL]
    have h6 := hf.m
    have hf' := hf.f
    have := List.length_filter_le (fun v => !bg s.failed v) (List.range s.failed.length)
    rw [List.length_range] at this
    unfold madeL hits
    split <;> simp <;> omega
  rw [← hL] at hx hk
  have HLL := Lib.hid hL
  clear hL
  have HX := Lib.hid hx
  have HK := Lib.hid hk
  have HR := Lib.hid hR
  have hsz := hR.size
  have hvb : ∀ b, v.ownBlock = some b → b < w.heap.size := fun b hb => (World.ownsRow.lt hR.own b hb).2
  clear hx hk hP hD hR
  have HS := Lib.hid (show sitV s = sit10 s.turn s.budget s.starts.length (ig s.starts 0) (ig s.starts 1) (ig s.starts 2) (ig s.starts 3) (ig s.starts 4) (ig s.starts 5) (bitsU s.failed s.failed.length) from rfl)
  rw [HS.out]
  go_enter Try.func34, Try.ntmps34
  go_wp2_with fail
  refine Calls.mono (made_at s _ hf hbu) ?_
  rintro e w1 ⟨v1, rfl, ho1, hb1⟩
  rw [← HLL.out] at ho1
  obtain ⟨g, cap, rfl, hg, fam⟩ := ho1.fam h1
  have hs1 := hb1.size
  simp at hs1 hg
  have HF := Lib.hid fam
  have HO := Lib.hid ho1
  clear fam ho1
  have hb1' : Below w.heap.size w w1 := (by repeat (first | exact Below.refl _ _ | assumption | refine Below.drew ?_ | refine below_drewN ?_ _ | refine Below.alloc ?_ (by first | omega | (simp; done) | (simp; omega)) _ | refine Below.setCell ?_ (by first | omega | (simp; done) | (simp; omega)) _ | refine Below.trans ?_ (Below.mono (by assumption) (by first | omega | (simp; done) | (simp; omega)))))
  have hC1 : Chg (SR md T v) w w1 := Chg.of_below hb1'
  have HR1 := Lib.hid (show Rea w1 fpos P D T mp md B Dn todo v from HR.out.later hb1')
  go_wp2_with fail
  go_loopg [15] (L.length + 1) (fun k v15 wr => ∃ i : Nat, i ≤ L.length ∧ k + i = L.length + 1 ∧ v15 = .int .i64 i ∧ Chg (SR md T v) w1 wr ∧ (∃ vk, Rea wr fpos P D T mp md B (Dn ++ fresh Dn (L.take i)) (todo ++ fresh Dn (L.take i)) vk ∧ ∀ b, vk.ownBlock = some b → v.ownBlock = some b ∨ w1.heap.size ≤ b) ∧ ∀ j (hj : j < L.length), j < i → okB plan b L[j] = true)
  case atStart => exact ⟨0, by omega, by omega, rfl, Chg.refl _ _, ⟨v, by rw [List.take_zero, fresh_nil, List.append_nil, List.append_nil]; exact HR1.out, fun b h => .inl h⟩, fun j _ hj => absurd hj (by omega)⟩
  case round =>
    obtain ⟨i, hi, hki, rfl, hch, ⟨vk, hr, hvk⟩, hall⟩ := hrel
    have hszr := hch.size
    have HCH := Lib.hid hch
    have HVK := Lib.hid hvk
    have HALL := Lib.hid hall
    have HRR := Lib.hid hr
    clear hch hvk hall
    rcases Nat.lt_or_ge i L.length with hlt | hge
    · obtain ⟨x, hx⟩ : ∃ x, x = L[i] := ⟨_, rfl⟩
      have hgS : ¬ SR md T v g := by
        rintro (h | h | h)
        · omega
        · omega
        · have := hvb _ h; omega
      have hat := (HF.out i hlt).chg HCH.out hgS
      rw [← hx] at hat
      obtain ⟨k0, k1, k2, k3, k4, k5, k6, k7, k8, k9⟩ := hat
      have dk : decide ((i : Int) < (L.length : Int)) = true := decide_eq_true (by omega)
      have i0 : (0 : Int) ≤ (i : Int) := by omega
      have i1 : (i : Int) < (L.length : Int) := by omega
      have cP := hr.cP
      obtain ⟨np, mP⟩ := hr.mP
      have hPr : P < wr.heap.size := World.block_lt_of_cell? _ _ cP
      have hfx : Fit6 x := HX.out x (by rw [hx]; exact List.getElem_mem hlt)
      obtain ⟨kl, hkl⟩ := HK.out x (by rw [hx]; exact List.getElem_mem hlt)
      have hpx := HP.out x hfx
      have HXX := Lib.hid hx
      have HMP := Lib.hid mP
      have HKL := Lib.hid hkl
      have HFX := Lib.hid hfx
      clear hx mP hkl hfx hr
      cases hpo : posAt plan x with
      | none =>
        rw [hpo] at hpx
        simp only at hpx
        have HPX := Lib.hid hpx
        have HPO := Lib.hid hpo
        clear hpx hpo
        go_wp2_with (at_lookup; refine wpList_look_ok rfl _ _ _ rfl 76 57 lawSit Try.underlying71 psZ zeroPs mp np fpos rfl (HMP.out.alloc _) (sitV x) kl rfl HKL.out ?_; rw [HPX.out]; dsimp only [Option.getD, Option.isSome, psZ])
        refine bodyPost_ret (v := .bool false) (by simp [results, go_sem, *]) rfl ?_
        exact rch_no (i := i) (by rw [← HLL.out]; exact hlt) (by simp only [← HLL.out, ← HXX.out]; exact okB_none HPO.out) (((hC1.trans HCH.out).alloc _).alloc _)
      | some p =>
        rw [hpo] at hpx
        simp only at hpx
        obtain ⟨sa, sc, fa, fc, hpx⟩ := hpx
        have HPX := Lib.hid hpx
        have HPO := Lib.hid hpo
        clear hpx hpo
        by_cases hb : 0 ≤ p.bound ∧ p.bound ≤ b
        · have e1 : decide (p.bound < 0) = false := decide_eq_false (by omega)
          have e2 : decide (b < p.bound) = false := decide_eq_false (by omega)
          have hOKx : okB plan b x = true := by rw [okB_some HPO.out]; simp; omega
          have HOK := Lib.hid hOKx
          clear hOKx
          have cD := HRR.out.cD
          have hDr : D < wr.heap.size := World.block_lt_of_cell? _ _ cD
          obtain ⟨nd, mD⟩ := HRR.out.mD
          have HMD := Lib.hid mD
          clear mD
          by_cases hin : x ∈ Dn ++ fresh Dn (L.take i)
          · have HDX := Lib.hid (doneF_in hin)
            go_wp2_with (at_lookup; first | (refine wpList_look_ok rfl _ _ _ rfl 76 57 lawSit Try.underlying71 psZ zeroPs mp np fpos rfl (HMP.out.alloc _) (sitV x) kl rfl HKL.out ?_; rw [HPX.out]; dsimp only [Option.getD, Option.isSome, psV]) | (refine wpList_look rfl _ _ _ rfl 76 4 lawSit Try.underlying79 (.bool false) zeroBl md nd (doneF (Dn ++ fresh Dn (L.take i))) rfl ((HMD.out.alloc _).alloc _) (sitV x) kl rfl HKL.out ?_; rw [HDX.out]; dsimp only [Option.getD]))
            go_roundg (L.length - i)
            case measure => omega
            case rel => exact ⟨i + 1, by omega, by omega, by go_num, (HCH.out.alloc _).alloc _, ⟨vk, by
              rw [fresh_take _ _ hlt, if_pos (by rw [← HXX.out]; exact hin)]
              exact HRR.out.later (by repeat (first | exact Below.refl _ _ | assumption | refine Below.drew ?_ | refine below_drewN ?_ _ | refine Below.alloc ?_ (by first | omega | (simp; done) | (simp; omega)) _ | refine Below.setCell ?_ (by first | omega | (simp; done) | (simp; omega)) _ | refine Below.trans ?_ (Below.mono (by assumption) (by first | omega | (simp; done) | (simp; omega))))), HVK.out⟩, fun j hj hj' => by
              rcases Nat.lt_succ_iff_lt_or_eq.1 hj' with h | h
              · exact HALL.out j hj h
              · subst h; rw [← HXX.out]; exact HOK.out⟩
          · have HDX := Lib.hid (doneF_out HFX.out (fun y hy => by
              rcases List.mem_append.1 hy with h | h
              · exact HD.out y h
              · exact HX.out y (List.mem_of_mem_take (fresh_sub _ _ y h))) hin)
            go_wp2_with (at_lookup; first | (refine wpList_look_ok rfl _ _ _ rfl 76 57 lawSit Try.underlying71 psZ zeroPs mp np fpos rfl (HMP.out.alloc _) (sitV x) kl rfl HKL.out ?_; rw [HPX.out]; dsimp only [Option.getD, Option.isSome, psV]) | (refine wpList_look rfl _ _ _ rfl 76 4 lawSit Try.underlying79 (.bool false) zeroBl md nd (doneF (Dn ++ fresh Dn (L.take i))) rfl ((HMD.out.alloc _).alloc _) (sitV x) kl rfl HKL.out ?_; rw [HDX.out]; dsimp only [Option.getD]))
            obtain ⟨wq, hwq⟩ : ∃ wq, wq = (wr.alloc (Obj.cells #[.int .i64 x.turn, .int .i64 x.budget, .int .i64 x.starts.length, .int .i64 (ig x.starts 0), .int .i64 (ig x.starts 1), .int .i64 (ig x.starts 2), .int .i64 (ig x.starts 3), .int .i64 (ig x.starts 4), .int .i64 (ig x.starts 5), .int .i64 (bitsU x.failed x.failed.length)] 76)).alloc (Obj.cells #[.int .i64 p.turn, .slice sa p.starts.length sc, .slice fa p.failed.length fc, .int .i64 p.budget, .int .i64 p.choice, .int .i64 p.bound] 57) := ⟨_, rfl⟩
            rw [← hwq]
            have hbq : Below wr.heap.size wr wq := by rw [hwq]; exact (by repeat (first | exact Below.refl _ _ | assumption | refine Below.drew ?_ | refine below_drewN ?_ _ | refine Below.alloc ?_ (by first | omega | (simp; done) | (simp; omega)) _ | refine Below.setCell ?_ (by first | omega | (simp; done) | (simp; omega)) _ | refine Below.trans ?_ (Below.mono (by assumption) (by first | omega | (simp; done) | (simp; omega)))))
            have hsq : wq.heap.size = wr.heap.size + 1 + 1 := by rw [hwq]; simp
            have hx9 : BoxAt wq wr.heap.size (sitC x) := by rw [hwq]; exact (BoxAt.new wr (sitC x) 76).alloc _
            have HRQ := Lib.hid (HRR.out.later hbq)
            clear hwq
            have HBQ := Lib.hid hbq
            obtain ⟨q0, q1, q2, q3, q4, q5, q6, q7, q8, q9⟩ : wq.cell? ⟨wr.heap.size, 0, none⟩ = some (.int .i64 x.turn) ∧ wq.cell? ⟨wr.heap.size, 1, none⟩ = some (.int .i64 x.budget) ∧ wq.cell? ⟨wr.heap.size, 2, none⟩ = some (.int .i64 x.starts.length) ∧ wq.cell? ⟨wr.heap.size, 3, none⟩ = some (.int .i64 (ig x.starts 0)) ∧ wq.cell? ⟨wr.heap.size, 4, none⟩ = some (.int .i64 (ig x.starts 1)) ∧ wq.cell? ⟨wr.heap.size, 5, none⟩ = some (.int .i64 (ig x.starts 2)) ∧ wq.cell? ⟨wr.heap.size, 6, none⟩ = some (.int .i64 (ig x.starts 3)) ∧ wq.cell? ⟨wr.heap.size, 7, none⟩ = some (.int .i64 (ig x.starts 4)) ∧ wq.cell? ⟨wr.heap.size, 8, none⟩ = some (.int .i64 (ig x.starts 5)) ∧ wq.cell? ⟨wr.heap.size, 9, none⟩ = some (.int .i64 (bitsU x.failed x.failed.length)) :=
              ⟨(hx9 0 _ rfl).1, (hx9 1 _ rfl).1, (hx9 2 _ rfl).1, (hx9 3 _ rfl).1, (hx9 4 _ rfl).1, (hx9 5 _ rfl).1, (hx9 6 _ rfl).1, (hx9 7 _ rfl).1, (hx9 8 _ rfl).1, (hx9 9 _ rfl).1⟩
            have c9 := cell_later hbq cD
            have hv0 : ∀ b, vk.ownBlock = some b → B ≤ b ∧ b < wq.heap.size := fun b hb => World.ownsRow.lt HRQ.out.own b hb
            have hS : ∀ k, k < B ∨ k = wr.heap.size → k ≠ md → k ≠ T → ¬ SR md T vk k := fun k h1 h2 h3 h4 => by
              rcases h4 with h4 | h4 | h4
              · exact h2 h4
              · exact h3 h4
              · have h5 := hv0 _ h4
                have h6 := (World.ownsRow.lt HRR.out.own _ h4).2
                omega
            have hSD := hS D (.inl ahd) adm atd
            have hS9 := hS wr.heap.size (.inr rfl) (by omega) (by omega)
            have HV0 := Lib.hid hv0
            have HS9 := Lib.hid hS9
            have HSD := Lib.hid hSD
            clear hx9 hbq hv0 hS hSD hS9 k0 k1 k2 k3 k4 k5 k6 k7 k8 k9 cP cD
            refine wp_flow_j (fun β L' w' => R8 wq D T md B wr.heap.size x (doneF (Dn ++ fresh Dn (L.take i))) vk (todo ++ fresh Dn (L.take i)) (β 4) (β 5) (L' 4) (L' 5) (L' 6) (L' 7) w') (by kernel_rfl) (by kernel_rfl) ?h0 ?_
            case h0 => exact R8.start HRQ.out
            ((with_reducible refine FlowJ.pure (v := ?_) ?_ ?_ ?_ ?_); rotate_left 1; (focus (intro _; rfl)); (focus (intro β L' w' hJ hat; (try dsimp only at hJ); (try dsimp only); simpa only [setL, Nat.reduceEqDiff, if_false] using hJ)); (focus (intro β L' w' hJ hat; (try dsimp only at hJ); (have d0 := hJ.chg.cell c9 HSD.out); go_simp; (try with_reducible rfl); done)); (try simp only [Act.put, List.setIfInBounds_toArray, List.set_cons_zero, List.set_cons_succ, Nat.reduceAdd]))
            ((with_reducible refine FlowJ.pure (v := ?_) ?_ ?_ ?_ ?_); rotate_left 1; (focus (intro _; rfl)); (focus (intro β L' w' hJ hat; (try dsimp only at hJ); (try dsimp only); simpa only [setL, Nat.reduceEqDiff, if_false] using hJ)); (focus (intro β L' w' hJ hat; (try dsimp only at hJ); (have y0 := hJ.chg.cell q0 HS9.out; have y1 := hJ.chg.cell q1 HS9.out; have y2 := hJ.chg.cell q2 HS9.out; have y3 := hJ.chg.cell q3 HS9.out; have y4 := hJ.chg.cell q4 HS9.out; have y5 := hJ.chg.cell q5 HS9.out; have y6 := hJ.chg.cell q6 HS9.out; have y7 := hJ.chg.cell q7 HS9.out; have y8 := hJ.chg.cell q8 HS9.out; have y9 := hJ.chg.cell q9 HS9.out); go_simp; (try with_reducible rfl); done)); (try simp only [Act.put, List.setIfInBounds_toArray, List.set_cons_zero, List.set_cons_succ, Nat.reduceAdd]))
            ((with_reducible refine FlowJ.pure (v := ?_) ?_ ?_ ?_ ?_); rotate_left 1; (focus (intro _; rfl)); (focus (intro β L' w' hJ hat; (try dsimp only at hJ); (try dsimp only); simpa only [setL, Nat.reduceEqDiff, if_false] using hJ)); (focus (intro β L' w' hJ hat; (try dsimp only at hJ); (have h7 := hat.not (j := 7) (by kernel_rfl); have yt := hJ.cell; simp only [h7, Bool.false_eq_true, if_false] at yt); go_simp; (try with_reducible rfl); done)); (try simp only [Act.put, List.setIfInBounds_toArray, List.set_cons_zero, List.set_cons_succ, Nat.reduceAdd]))
            ((with_reducible refine FlowJ.pure (v := ?_) ?_ ?_ ?_ ?_); rotate_left 1; (focus (intro _; rfl)); (focus (intro β L' w' hJ hat; (try dsimp only at hJ); (try dsimp only); simpa only [setL, Nat.reduceEqDiff, if_false] using hJ)); (focus (intro β L' w' hJ hat; (try dsimp only at hJ); (have y0 := hJ.chg.cell q0 HS9.out; have y1 := hJ.chg.cell q1 HS9.out; have y2 := hJ.chg.cell q2 HS9.out; have y3 := hJ.chg.cell q3 HS9.out; have y4 := hJ.chg.cell q4 HS9.out; have y5 := hJ.chg.cell q5 HS9.out; have y6 := hJ.chg.cell q6 HS9.out; have y7 := hJ.chg.cell q7 HS9.out; have y8 := hJ.chg.cell q8 HS9.out; have y9 := hJ.chg.cell q9 HS9.out); go_simp; (try with_reducible rfl); done)); (try simp only [Act.put, List.setIfInBounds_toArray, List.set_cons_zero, List.set_cons_succ, Nat.reduceAdd]))
            ((with_reducible refine FlowJ.ghost ?_ ?_ ?_); (focus (intro _; rfl)); (focus (intro β L' w' hJ hat K' hK; (try dsimp only at hJ); ((have n5 := hat.not (j := 5) (by kernel_rfl)); (have n7 := hat.not (j := 7) (by kernel_rfl)); have un := hat.un; simp only [un, n5, n7] at hJ; (have y0 := hJ.chg.cell q0 HS9.out; have y1 := hJ.chg.cell q1 HS9.out; have y2 := hJ.chg.cell q2 HS9.out; have y3 := hJ.chg.cell q3 HS9.out; have y4 := hJ.chg.cell q4 HS9.out; have y5 := hJ.chg.cell q5 HS9.out; have y6 := hJ.chg.cell q6 HS9.out; have y7 := hJ.chg.cell q7 HS9.out; have y8 := hJ.chg.cell q8 HS9.out; have y9 := hJ.chg.cell q9 HS9.out); go_simp; refine hK.out _ _ ?_; simp only [updG, setL, Nat.reduceEqDiff, if_true, if_false, n5, n7]; exact hJ.new))); (try simp only [Act.put, List.setIfInBounds_toArray, List.set_cons_zero, List.set_cons_succ, Nat.reduceAdd]))
            ((with_reducible refine FlowJ.ghost ?_ ?_ ?_); (focus (intro _; rfl)); (focus (intro β L' w' hJ hat K' hK; (try dsimp only at hJ); ((have p4 := hat.pre 4 (by kernel_rfl)); (have n7 := hat.not (j := 7) (by kernel_rfl)); have un := hat.un; simp only [un, p4, n7] at hJ; obtain ⟨nb, eb, hnb, hbx⟩ := hJ.box rfl; refine wp_append_sit (.tmp 44) (.tmp 46) rfl B vk (todo ++ fresh Dn (L.take i)) x rfl hJ.own nb 1 (by show β 4 = _; exact eb) hbx (by have := fresh_len Dn (L.take i); simp at this; simp; omega) (Nat.le_trans HRQ.out.size hJ.chg.size) ?_; intro v' w2 ho hg hn; refine hK.out _ _ ?_; simp only [updG, setL, Nat.reduceEqDiff, if_true, if_false, p4, n7]; exact hJ.appended HV0.out aht ahmd ho hg hn))); (try simp only [Act.put, List.setIfInBounds_toArray, List.set_cons_zero, List.set_cons_succ, Nat.reduceAdd]))
            ((with_reducible refine FlowJ.eff ?_ ?_ ?_); (focus (intro _; rfl)); (focus (intro β L' w' hJ hat K' hK; (try dsimp only at hJ); (have un := hat.un; simp only [un] at hJ; obtain ⟨n2, m2⟩ := hJ.map; refine wp_put (.tmp 42) (.tmp 43) (.const (.bool true)) rfl lawSit Try.underlying79 rfl m2 (sitV x) (.bool true) kl rfl rfl HKL.out ?_; intro w2 h2 h3 _; refine hK.out _ ?_; simp only [setL, Nat.reduceEqDiff, if_true, if_false]; exact hJ.put' ahmd atm HRQ.out.size h2 h3))); (try simp only [Act.put, Nat.reduceAdd]))
            ((with_reducible refine FlowJ.eff ?_ ?_ ?_); (focus (intro _; rfl)); (focus (intro β L' w' hJ hat K' hK; (try dsimp only at hJ); ((have p5 := hat.pre 5 (by kernel_rfl)); have p4 := hat.down 5 4 p5 (by decide) (by kernel_rfl); have un := hat.un; simp only [un, p4, p5] at hJ; have yt := hJ.cell; have yf := hJ.fro; simp only [Bool.false_eq_true, if_false] at yt; obtain ⟨oa, na, ca, e5⟩ := hJ.own.shape; simp only [if_true] at e5; go_simp; rw [← e5]; refine hK.out _ ?_; simp only [setL, Nat.reduceEqDiff, if_true, if_false, p4, p5]; exact hJ.stored aht atm HRQ.out.size))); (try simp only [Act.put, Nat.reduceAdd]))
            refine FlowJ.stop ?_
            dsimp only
            intro β w5 hJ
            obtain ⟨hd1, hd2, hd3⟩ := R8.done hA HRQ.out hJ
            obtain ⟨v5, hv5⟩ : ∃ v5, β 5 = v5 := ⟨_, rfl⟩
            rw [hv5] at hd1 hd3
            have HD1 := Lib.hid hd1
            have hw5 : Chg (SR md T v) w1 w5 := (HCH.out.trans (Chg.of_below HBQ.out)).trans' hd2 (fun k hk h => by
              rcases h with h | h | h
              · exact .inl h
              · exact .inr (.inl h)
              · rcases HVK.out _ h with h' | h'
                · exact .inr (.inr h')
                · omega)
            have HW5 := Lib.hid hw5
            have HN5 := Lib.hid (show ∀ b, v5.ownBlock = some b → v.ownBlock = some b ∨ w1.heap.size ≤ b from fun b hb => by
              rcases hd3 b hb with h | h
              · exact HVK.out b h
              · exact .inr (by omega))
            clear hd1 hd2 hd3 hw5 hv5 hJ q0 q1 q2 q3 q4 q5 q6 q7 q8 q9 c9 HS9 HSD HV0 HRQ HBQ hsq e1 e2
            go_wp2_with fail
            go_roundg (L.length - i)
            case measure => omega
            case rel => exact ⟨i + 1, by omega, by omega, by go_num, HW5.out, ⟨v5, by
              rw [fresh_take _ _ hlt, if_neg (by rw [← HXX.out]; exact hin), ← HXX.out, ← List.append_assoc, ← List.append_assoc]
              exact HD1.out, HN5.out⟩, fun j hj hj' => by
              rcases Nat.lt_succ_iff_lt_or_eq.1 hj' with h | h
              · exact HALL.out j hj h
              · subst h; rw [← HXX.out]; exact HOK.out⟩
        · have HOK := Lib.hid (show okB plan b x = false by rw [okB_some HPO.out]; simp; omega)
          by_cases hb1 : p.bound < 0
          · have e1 : decide (p.bound < 0) = true := decide_eq_true hb1
            go_wp2_with (at_lookup; refine wpList_look_ok rfl _ _ _ rfl 76 57 lawSit Try.underlying71 psZ zeroPs mp np fpos rfl (HMP.out.alloc _) (sitV x) kl rfl HKL.out ?_; rw [HPX.out]; dsimp only [Option.getD, Option.isSome, psV])
            refine bodyPost_ret (v := .bool false) (by simp [results, go_sem, *]) rfl ?_
            exact rch_no (i := i) (by rw [← HLL.out]; exact hlt) (by simp only [← HLL.out, ← HXX.out]; exact HOK.out) (((hC1.trans HCH.out).alloc _).alloc _)
          · have e1 : decide (p.bound < 0) = false := decide_eq_false hb1
            have e2 : decide (b < p.bound) = true := decide_eq_true (by omega)
            go_wp2_with (at_lookup; refine wpList_look_ok rfl _ _ _ rfl 76 57 lawSit Try.underlying71 psZ zeroPs mp np fpos rfl (HMP.out.alloc _) (sitV x) kl rfl HKL.out ?_; rw [HPX.out]; dsimp only [Option.getD, Option.isSome, psV])
            refine bodyPost_ret (v := .bool false) (by simp [results, go_sem, *]) rfl ?_
            exact rch_no (i := i) (by rw [← HLL.out]; exact hlt) (by simp only [← HLL.out, ← HXX.out]; exact HOK.out) (((hC1.trans HCH.out).alloc _).alloc _)
    · have ei : i = L.length := by omega
      subst ei
      have dk : decide ((L.length : Int) < (L.length : Int)) = false := decide_eq_false (by omega)
      have hre : reachB plan s b = true := by
        unfold reachB
        rw [← HLL.out]
        refine List.all_eq_true.2 fun y hy => ?_
        obtain ⟨j, hj, rfl⟩ := List.getElem_of_mem hy
        exact HALL.out j hj hj
      have HRE := Lib.hid hre
      clear hre hr
      go_wp2_with fail
      go_ret
      exact ⟨by rw [HRE.out]; rfl, hC1.trans HCH.out, fun _ => ⟨vk, by rw [← HLL.out]; have := HRR.out; rw [List.take_length] at this; exact this⟩⟩
end Go.Proofs.Ytgccankekflchaa

