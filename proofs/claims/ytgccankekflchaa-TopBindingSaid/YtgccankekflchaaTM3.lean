/- Package play: the games, Worst. -/
import Derived.Test.YtgccankekflchaaRangeC
import Derived.Test.YtgccankekflchaaTM2
import Derived.Test.YtgccankekflchaaGamJ
import Derived.ArgAppend
import Derived.Test.YtgccankekflchaaChg
import Derived.Test.YtgccankekflchaaTM1
import Derived.RecoverIn
import Derived.TacticsInMore
import Derived.Test.YtgccankekflchaaGamF
namespace Go.Proofs.Ytgccankekflchaa
open Go Go.RowKit

/-- numbers that lie in memory from B on -/
def IntsN (B : Nat) (w : World) (a : Option Addr) (l : List Int) : Prop := ∀ j, j < l.length → ∃ b off, a = some ⟨b, off, none⟩ ∧ B ≤ b ∧ w.cell? ⟨b, off + j, none⟩ = some (.int .i64 (ig l j))
theorem IntsN.ints {B : Nat} {w : World} {a : Option Addr} {l : List Int} (h : IntsN B w a l) : Ints w a l := fun j hj => by
  obtain ⟨b, off, e, _, hc⟩ := h j hj
  exact ⟨b, off, e, hc⟩
theorem IntsN.mono {B B' : Nat} {w : World} {a : Option Addr} {l : List Int} (h : IntsN B w a l) (hb : B' ≤ B) : IntsN B' w a l := fun j hj => by
  obtain ⟨b, off, e, h1, hc⟩ := h j hj
  exact ⟨b, off, e, Nat.le_trans hb h1, hc⟩
theorem IntsN.chg {B : Nat} {S : Nat → Prop} {w w' : World} {a : Option Addr} {l : List Int} (h : IntsN B w a l) (hc : Chg S w w') (hs : ∀ k, S k → k < B) : IntsN B w' a l := fun j hj => by
  obtain ⟨b, off, e, h1, hcl⟩ := h j hj
  exact ⟨b, off, e, h1, hc.cell hcl fun hk => by have h2 : b < B := hs b hk; omega⟩
/-- an iterator that hands out xs in turn, and then ends, or panics -/
def SeqP (n : Nat) (P : Program) (g : Nat) (lb : Array Value) (xs : List (List Int × Int)) (err : Option Int) (S : Nat → Prop) (w : World) : Prop :=
  ∀ (l : Nat) (J : List (List Int × Int) → World → Prop) (W : World), Below w.heap.size w W → (∀ k, S k → k < W.heap.size) → (∀ pre A B, J pre A → Chg (fun _ => False) A B → J pre B) →
    (∀ pre x a c W1, J pre W1 → (pre ++ [x]) <+: xs → IntsN W.heap.size W1 a x.1 → YieldAt Fence.wide (n - 1) P l #[.slice a x.1.length c, .int .i64 x.2] W1 fun e W' => e = .returned (.bool true) ∧ J (pre ++ [x]) W' ∧ Chg S W1 W') →
    J [] W → CallsIn Fence.wide n P g (#[.func (.yield l) #[] #[]] ++ lb) W fun e W' => (∃ v, e = .returned v ∧ err = none ∧ J xs W') ∨ (∃ m, err = some m ∧ e = errP m ∧ J xs W')
/-- how a round ends -/
def postP (Sb : Nat → Prop) (I : List (List Int × Int) → World → Prop) (xs : List (List Int × Int)) (W : World) : Exit → Act → World → Prop
  | .normal, _, W' => Chg Sb W W' ∧ I xs W'
  | _, _, _ => False
theorem wpIn_rangeFunc_pan {n : Nat} {P : Program} {g : Operand} {p0 p1 : Tmp} {assign body : Code} {Q : Exit → Act → World → Prop} {a : Act} {w : World} (h1 : 1 ≤ n) {gf : Nat} {lb : Array Value} (hg : a.eval g = .func (.func gf) #[] lb)
    (eg : ∀ args w, (callFunc gf args).run P w = .ok (.enter gf args) w) {xs : List (List Int × Int)} {err : Option Int} {Sb : Nat → Prop} {w0 : World} (hseq : SeqP (n - 1) P gf lb xs err (fun k => Sb k ∨ k = w.heap.size ∨ k = w.heap.size + 1) w0)
    (hb0 : Below w0.heap.size w0 w) (hSb : ∀ k, Sb k → k < w.heap.size)
    (I : List (List Int × Int) → World → Prop) (hI : ∀ pre A B, I pre A → Chg (fun k => k = w.heap.size ∨ k = w.heap.size + 1) A B → I pre B) (h0 : I [] w) (a₁ : Option Addr → Nat → List Int × Int → Act)
    (hassign : ∀ (l : Nat) (x : List Int × Int) (ad : Option Addr) (c : Nat) (W : World) (K : Act → World → Prop), K (a₁ ad c x) W →
      assign.wpIn (Fence.wide.inRound l) (n - 1 - 1) P (Exit.then K (fun _ _ _ => False)) { tmps := (#[p0, p1].zip #[.slice ad x.1.length c, .int .i64 x.2]).foldl (fun t (p, v) => t.setIfInBounds p v) a.tmps, defers := [] } W)
    (hbody : ∀ (l : Nat) (pre : List (List Int × Int)) (x : List Int × Int) (ad : Option Addr) (c : Nat) (W : World), I pre W → w.heap.size + 1 < W.heap.size → (pre ++ [x]) <+: xs → IntsN (w.heap.size + 1 + 1) W ad x.1 → body.wpIn (Fence.wide.inRound l) (n - 1 - 1) P (postP Sb I (pre ++ [x]) W) (a₁ ad c x) W)
    (hdone : ∀ (W : World), err = none → I xs W → W.heap[w.heap.size]? = some (.deferred (some [])) → Q .normal { a with defers := { target := .collected w.heap.size, args := #[] } :: a.defers } W)
    (hpan : ∀ (m : Int) (W : World), err = some m → I xs W → W.heap[w.heap.size]? = some (.deferred (some [])) → Q (.panic [{ v := .iface 29 (.int .i64 m), recovered := false }]) { a with defers := { target := .collected w.heap.size, args := #[] } :: a.defers } W) :
    (Code.rangeFunc g #[p0, p1] assign body).wpIn Fence.wide n P Q a w := by
  refine wpIn_rangeFunc fun fn hfn => ?_
  rw [show Fence.wide.round = none from rfl]
  obtain ⟨H, hH⟩ : ∃ H, H = w.heap.size := ⟨_, rfl⟩
  rw [← hH] at hI hbody hSb hdone hpan hseq
  let rc : LoopState → Option Code → Loop := fun st pe => { state := st, pending := pe, fn, tmps := a.tmps, params := #[p0, p1], assign, body, defers := H }
  obtain ⟨W1, hW1⟩ : ∃ W1, W1 = (w.alloc (.deferred (some []))).alloc (.loop (rc .ready none)) := ⟨_, rfl⟩
  have hl1 : W1.heap[H + 1]? = some (.loop (rc .ready none)) := by
    have := World.alloc_heap_new (w.alloc (.deferred (some []))) (.loop (rc .ready none))
    rw [World.size_alloc, ← hH] at this
    rw [hW1]; exact this
  have hd1 : W1.heap[H]? = some (.deferred (some [])) := by
    have := World.alloc_heap_new w (.deferred (some []))
    rw [hW1, Below.heap_alloc _ _ _ (by simp; omega), hH]
    exact this
  have hi1 : I [] W1 := by rw [hW1]; exact hI _ _ _ (hI _ _ _ h0 (Chg.alloc1 _ _)) (Chg.alloc1 _ _)
  have hs1 : W1.heap.size = H + 1 + 1 := by rw [hW1]; simp [hH]
  have hb1 : Below w0.heap.size w0 W1 := by
    rw [hW1]; exact hb0.trans ((((Below.refl _ w).alloc (Nat.le_refl _) _).alloc (by simp) _).mono hb0.size)
  have hlt : ∀ {W : World} {k : Nat} {o : Obj}, W.heap[k]? = some o → k < W.heap.size := fun h => (Array.getElem?_eq_some_iff.1 h).1
  refine ⟨H + 1, [{ target := .collected H, args := #[] }], W1, { target := .fn (.func gf) lb, args := #[.func (.yield (H + 1)) #[] #[]] }, W1, gf, #[.func (.yield (H + 1)) #[] #[]] ++ lb, W1, ?_, ?_, ?_, ?_, fun _ => h1, ?_⟩
  · rw [hW1, hH]; subst hH; exact run_enterLoop_outer _ _ _ _ _
  · simp only [resolve, hg]
    simp [go_sem]
  · intro f' _; trivial
  · simp [invoke, go_sem, eg]
  refine (hseq (H + 1) (fun pre W => I pre W ∧ W.heap[H + 1]? = some (.loop (rc .ready none)) ∧ W.heap[H]? = some (.deferred (some []))) W1 hb1 (fun k hk => by rw [hs1]; rcases hk with h | h | h <;> first | (have := hSb k h; omega) | omega)
      (fun s A B hs hc => ⟨hI s A B hs.1 (hc.mono fun k _ h => h.elim), (hc.block _ (hlt hs.2.1) fun h => h).trans hs.2.1, (hc.block _ (hlt hs.2.2) fun h => h).trans hs.2.2⟩) ?_ ⟨hi1, hl1, hd1⟩).mono ?_
  · rintro pre x ad c W ⟨hi, hl, hd⟩ hpx hin
    rw [hs1] at hin
    refine ⟨fn, _, assign, body, run_yield (P := P) (args := #[.slice ad x.1.length c, .int .i64 x.2]) hl rfl, roundIn_of_wpIn hfn (hassign _ x ad c W _ ?_)⟩
    refine ⟨_, run_beginRound hl rfl, ?_⟩
    have hl2 : (W.putObj (H + 1) (.loop { rc .ready none with state := .busy })).heap[H + 1]? = some (.loop { rc .ready none with state := .busy }) := World.putObj_heap_same (hlt hl)
    have hd2 : (W.putObj (H + 1) (.loop { rc .ready none with state := .busy })).heap[H]? = some (.deferred (some [])) := (World.putObj_heap_other (by omega)).trans hd
    have hcp : Chg (fun k => k = H + 1) W (W.putObj (H + 1) (.loop { rc .ready none with state := .busy })) := Chg.put W _ hl rfl
    refine wpIn_mono (hbody _ pre x ad c _ (hI _ _ _ hi (hcp.mono fun k _ h => .inr h)) (hlt hl2) hpx (hin.chg hcp fun k hk => by omega)) ?_
    rintro e a3 W3 hp
    cases e with
    | normal =>
      obtain ⟨hc3, hi3⟩ := hp
      have h3 := (hc3.block _ (hlt hl2) fun h => by have := hSb _ h; omega).trans hl2
      have hd3 := (hc3.block _ (hlt hd2) fun h => by have := hSb _ h; omega).trans hd2
      have hc4 : Chg (fun k => k = H + 1) W3 (W3.putObj (H + 1) (.loop (rc .ready none))) := Chg.put W3 _ h3 rfl
      refine ⟨_, _, run_endRound (P := P) none h3, rfl, ⟨hI _ _ _ hi3 (hc4.mono fun k _ h => .inr h), World.putObj_heap_same (hlt h3), (World.putObj_heap_other (by omega)).trans hd3⟩, ?_⟩
      exact ((hcp.mono fun k _ h => .inr (.inr h)).trans (hc3.mono fun k _ h => .inl h)).trans (hc4.mono fun k _ h => .inr (.inr h))
    | ret => exact hp.elim
    | exit id => exact hp.elim
    | goto t => exact hp.elim
    | panic ch => exact hp.elim
    | outgrown => exact hp.elim
  · rintro e W2 (⟨v, rfl, he, hi, hl, hd⟩ | ⟨m, he, rfl, hi, hl, hd⟩)
    · have hc : Chg (fun k => k = H + 1) W2 (W2.putObj (H + 1) (.loop { rc .ready none with state := .exhausted })) := Chg.put W2 _ hl rfl
      exact ⟨none, _, run_endLoop (P := P) hl (by simp [rc]), hdone _ he (hI _ _ _ hi (hc.mono fun k _ h => .inr h)) ((World.putObj_heap_other (by omega)).trans hd)⟩
    · exact hpan m W2 he hi hd
end Go.Proofs.Ytgccankekflchaa
namespace Go.Proofs.Ytgccankekflchaa
open Go.RowKit Go.Maps Go.Shelf
attribute [local go_sem] Oper.semAt_some

/-! ### plain -/
def seqG (f : Int → List (List Int × Int) × Option Int) : List Int → List (List Int × Int) × Option Int
  | [] => ([], none)
  | v :: vs => match f v with
    | (xs, some e) => (xs, some e)
    | (xs, none) => (xs ++ (seqG f vs).1, (seqG f vs).2)
def mvOk (s : St) (v : Int) : Bool := decide (v < 0) || (!decide (s.budget = 0) && !bg s.failed v.toNat)
def vsG (n : Nat) : List Int := (List.range (n + 1)).map fun (i : Nat) => (i : Int) - 1
/-- what the iterator hands out, and the error at which it gets stuck -/
def gamesL (g : Gm) (plan : List Pos) : Nat → St → List Int → Int → List (List Int × Int) × Option Int
  | 0, _, fl, lo => ([(fl, lo)], none)
  | k + 1, s, fl, lo => seqG (fun v => match turnR g plan s v with
    | .error e => ([], some e)
    | .ok y => gamesL g plan k y.1 (fl ++ [v]) (lo + y.2)) ((vsG s.starts.length).filter (mvOk s))
/-! ### in memory -/
/-- what does not change while the games are played -/
structure GaK where
  g : Gm
  sa : Option Addr
  sc : Nat
  da : Option Addr
  dc : Nat
  plan : List Pos
  M : Nat
  mn : Nat
  PB : Nat
  YB : Nat
  FB : Nat
  l : Nat
  w0 : World
abbrev frV (K : GaK) : Value := .func (.func 59) #[] #[.pointer (some ⟨K.PB, 0, none⟩), .pointer (some ⟨K.YB, 0, none⟩), .pointer (some ⟨K.FB, 0, none⟩)]
structure GaD (K : GaK) : Prop where
  vg : VG K.g
  gm : GmAt K.w0 K.g K.sa K.da
  lo : K.w0.heap.size ≤ K.PB ∧ K.w0.heap.size ≤ K.YB ∧ K.w0.heap.size ≤ K.FB ∧ K.w0.heap.size ≤ K.M
structure GaI (K : GaK) (w : World) : Prop where
  bl : Below K.w0.heap.size K.w0 w
  p : BoxAt w K.PB (bdC K.g K.sa K.sc K.da K.dc K.M)
  y : BoxAt w K.YB [.func (.yield K.l) #[] #[]]
  f : BoxAt w K.FB [frV K]
  m : MapIs Try.prog 92 w K.M K.mn (choF K.plan)
theorem GaI.chg {K : GaK} {S : Nat → Prop} {w w' : World} (h : GaI K w) (hc : Chg S w w') (hs : ∀ k, S k → K.w0.heap.size ≤ k ∧ k ≠ K.PB ∧ k ≠ K.YB ∧ k ≠ K.FB ∧ k ≠ K.M) : GaI K w' :=
  ⟨h.bl.trans (hc.below h.bl.size fun k hk => (hs k hk).1), h.p.chg hc (fun e => (hs _ e).2.1 rfl) h.p.lt, h.y.chg hc (fun e => (hs _ e).2.2.1 rfl) h.y.lt, h.f.chg hc (fun e => (hs _ e).2.2.2.1 rfl) h.f.lt, h.m.block (hc.block _ h.m.lt fun e => (hs _ e).2.2.2.2 rfl)⟩
theorem GaI.later {K : GaK} {w w' : World} (h : GaI K w) (hb : Below w.heap.size w w') : GaI K w' := h.chg (S := fun _ => False) (Chg.of_below hb) fun _ h => h.elim
/-- the fence of what a round may change, and what it hands over -/
structure GaY (K : GaK) (B n : Nat) (xs : List (List Int × Int)) (S : Nat → Prop) (J : List (List Int × Int) → World → Prop) : Prop where
  s : ∀ k, S k → K.w0.heap.size ≤ k ∧ k < B ∧ k ≠ K.PB ∧ k ≠ K.YB ∧ k ≠ K.FB ∧ k ≠ K.M
  j : ∀ pre A A', J pre A → Chg (fun _ => False) A A' → J pre A'
  y : ∀ pre x a c W1, J pre W1 → (pre ++ [x]) <+: xs → IntsN B W1 a x.1 → YieldAt Fence.wide n Try.prog K.l #[.slice a x.1.length c, .int .i64 x.2] W1 fun e W' => e = .returned (.bool true) ∧ J (pre ++ [x]) W' ∧ Chg S W1 W'
def RetFr (K : GaK) (S : Nat → Prop) (J : List (List Int × Int) → World → Prop) (pre : List (List Int × Int)) (r : List (List Int × Int) × Option Int) (w : World) (e : Ending) (w' : World) : Prop :=
  GaI K w' ∧ J (pre ++ r.1) w' ∧ Chg S w w' ∧ ((e = .returned (.bool true) ∧ r.2 = none) ∨ ∃ m, r.2 = some m ∧ e = errP m)
def FromC (K : GaK) (B _n : Nat) (xs : List (List Int × Int)) (S : Nat → Prop) (J : List (List Int × Int) → World → Prop) (k : Nat) : Prop :=
  ∀ (s : St) (fl : List Int) (lo : Int) (a : Option Addr) (c : Nat) (pre : List (List Int × Int)) (w : World), GaI K w → J pre w → IntsN B w a fl → fl.length ≤ c → fl.length + k ≤ 100 → 0 ≤ lo → lo + k ≤ 100 → Dom K.g s → s.turn + k = K.g.deps.length → (pre ++ (gamesL K.g K.plan k s fl lo).1) <+: xs → B ≤ w.heap.size →
    Calls Try.prog 59 #[pyV s, .slice a fl.length c, .int .i64 lo, .pointer (some ⟨K.PB, 0, none⟩), .pointer (some ⟨K.YB, 0, none⟩), .pointer (some ⟨K.FB, 0, none⟩)] w (RetFr K S J pre (gamesL K.g K.plan k s fl lo) w)
set_option maxRecDepth 100000 in
set_option maxHeartbeats 4000000 in
theorem from_end (K : GaK) (B n : Nat) (xs : List (List Int × Int)) (S : Nat → Prop) (J : List (List Int × Int) → World → Prop) (hY : GaY K B n xs S J) : FromC K B n xs S J 0 := by
  intro s fl lo a c pre w hI hJ hin hcap hfl hlo hlo2 hD ht hpx hB
  obtain ⟨N, hN⟩ : ∃ N, N = K.g.deps.length := ⟨_, rfl⟩
  have htn : s.turn = (N : Int) := by omega
  obtain ⟨C, hC⟩ : ∃ C, C = pyC s := ⟨_, rfl⟩
  have hC0 : C[0]? = some (.int .i64 N) := by rw [hC]; unfold pyC; rw [htn]; rfl
  obtain ⟨ln, hln⟩ : ∃ n, n = fl.length := ⟨_, rfl⟩
  have hyA := fun w1 (hb : Below w.heap.size w w1) => hY.y pre (fl, lo) a c w1 (hY.j _ _ _ hJ (Chg.of_below hb)) hpx (hin.chg (S := fun _ => False) (Chg.of_below hb) fun _ h => h.elim)
  simp only [← hln] at hyA
  unfold pyV
  rw [← hC, ← hln]
  refine (callsIn_wide (n := n + 1)).1 ?_
  refine callsIn_of_wp Try.func59 rfl trivial ?_ rfl
  simp only [Try.ntmps59, List.size_toArray, List.length_cons, List.length_nil, Nat.reduceAdd, Nat.reduceSub, Array.replicate_succ, Array.replicate_zero, List.push_toArray, List.append_toArray, List.nil_append, List.cons_append]
  have HI := Lib.hid hI
  have HY := Lib.hid hY
  have HN := Lib.hid hN
  have HC := Lib.hid hC
  have HC0 := Lib.hid hC0
  have HYA := Lib.hid hyA
  clear hI hJ hin hcap hfl hlo hlo2 hD ht hpx hN htn hC hC0 hln hyA hY
  gi_upto_region 1 with fail
  obtain ⟨w1, hw1⟩ : ∃ w1, w1 = w.alloc (Obj.cells C.toArray 92) := ⟨_, rfl⟩
  rw [← hw1]
  obtain ⟨hb1, hs1, hx1, -⟩ := alloc1 w C _ w1 hw1
  have hI1 := HI.out.later hb1
  have c0 := (hx1 0 _ HC0.out).1
  have c1 := (hI1.p 1 _ rfl).1
  rw [← HN.out] at c1
  have cy := (hI1.y 0 _ rfl).1
  obtain ⟨fn, tmps, assign, body, hy, hR⟩ := HYA.out w1 hb1
  have HI1 := Lib.hid hI1
  have HB1 := Lib.hid hb1
  clear hw1 hb1 hs1 hx1 hI1
  gi_wp2_with (refine hR.mono ?_; rintro e W3 ⟨rfl, hJ3, hc3⟩)
  refine bodyPost_ret (results_tmp rfl _ _ _) rfl ?_
  exact ⟨HI1.out.chg hc3 fun k hk => by have h := HY.out.s k hk; exact ⟨h.1, h.2.2⟩, hJ3, (Chg.of_below HB1.out).trans hc3, .inl ⟨rfl, rfl⟩⟩
end Go.Proofs.Ytgccankekflchaa
namespace Go.Proofs.Ytgccankekflchaa
open Go.RowKit Go.Maps Go.Shelf

set_option maxRecDepth 100000 in
theorem clip_any (a : Option Addr) (n c : Nat) (w : World) (hc : n ≤ c) (h0 : a = none → n = 0) : Calls Try.prog 60 #[.slice a n c] w (RetS (.slice a n n) w) := by
  have h1 : (n : Int) ≤ (c : Int) := by omega
  cases a with
  | none =>
    obtain rfl := h0 rfl
    go_enter Try.func60, Try.ntmps60
    go_wp2_with fail
    go_ret
    exact retS (by simp)
  | some ad =>
    go_enter Try.func60, Try.ntmps60
    go_wp2_with fail
    go_ret
    exact retS (by simp)
theorem clip_app (w : World) (B nb : Nat) (a : Option Addr) (fl : List Int) (v : Int) (hB : B ≤ w.heap.size) (hin : IntsN B w a fl) (hfl : fl.length ≤ 1000) (hx : BoxAt w nb [.int .i64 v]) :
    ∃ a' c' w', (Builtin.append_ #[22, 22] 22 #[.slice a fl.length fl.length, .slice (some ⟨nb, 0, none⟩) 1 1]).run Try.prog w = .ok (.slice a' (fl.length + 1) c') w' ∧ IntsN B w' a' (fl ++ [v]) ∧ fl.length + 1 ≤ c' ∧ Below w.heap.size w w' := by
  have hxa : EI.At w (some ⟨nb, 0, none⟩) [v] := El.one_at (E := EI) hx
  have hown : ∃ v' w', (Builtin.append_ #[22, 22] 22 #[.slice a fl.length fl.length, .slice (some ⟨nb, 0, none⟩) 1 1]).run Try.prog w = .ok v' w' ∧ EI.Own w' w.heap.size v' (fl ++ [v]) ∧ Below w.heap.size w w' := by
    cases a with
    | none =>
      have h0 : fl = [] := by
        cases fl with
        | nil => rfl
        | cons x l => obtain ⟨_, _, e, _⟩ := hin 0 (by simp); cases e
      subst h0
      obtain ⟨v', w', hr, ho, hg, _⟩ := El.app (E := EI) w w.heap.size (.slice none 0 0) [] [v] (El.Own.nil _ _ _) (some ⟨nb, 0, none⟩) 1 hxa (by simp) (Nat.le_refl _) 22
      exact ⟨v', w', hr, ho, (Below.refl _ w).grown hg (Nat.le_refl _) fun b hb => by cases hb⟩
    | some ad =>
      obtain ⟨i0, hi, hz0, hz1, hz2⟩ := infoParts EI.info
      obtain ⟨v', w', hr, ho, hg⟩ := run_append_arg_grows (P := Try.prog) w 22 22 3 i0 (.int .i64 0) 1 8 Try.underlying22 hi hz0 hz1 hz2 rfl (by decide) ad fl.length fl.length (fl.flatMap EI.cf) (EI.flen fl) (fun j u hu => by
          obtain ⟨b, off, e, hc⟩ := (Ints.el hin.ints) j u hu
          cases e
          by_cases h0 : j = 0
          · subst h0; simpa [Addr.add] using hc
          · simpa [Addr.add, h0] using hc) ⟨nb, 0, none⟩ 1 1 ([v].flatMap EI.cf) rfl (fun j u hu => by
          obtain ⟨b, off, e, hc⟩ := hxa j u hu
          cases e
          by_cases h0 : j = 0
          · subst h0; simpa [Addr.add] using hc
          · simpa [Addr.add, h0] using hc) (by omega) (by unfold maxLen; omega) (by omega)
      refine ⟨v', w', hr, ?_, (Below.refl _ w).grown hg (Nat.le_refl _) fun b hb => by cases hb⟩
      have e2 : (fl ++ [v]).flatMap EI.cf = fl.flatMap EI.cf ++ [v].flatMap EI.cf := List.flatMap_append
      have e3 : (fl ++ [v]).length * EI.S = fl.length * EI.S + 1 * EI.S := by simp [EI]
      unfold El.Own
      rw [e2]
      simpa [EI] using ho
  obtain ⟨v', w', hr, ho, hb⟩ := hown
  obtain ⟨a', c', e, h1, h2, hat, hcase⟩ := ho.at
  refine ⟨a', c', w', by rw [hr, e]; simp, fun j hj => ?_, by simpa using h1, hb⟩
  obtain ⟨b, off, e2, hc⟩ := hat.ints j hj
  refine ⟨b, off, e2, ?_, hc⟩
  have h3 := (ho.lt b (by rw [e, e2]; rfl)).1
  omega
theorem vs_drop {n i : Nat} (h : i < n + 1) : (vsG n).drop i = ((i : Int) - 1) :: (vsG n).drop (i + 1) := by
  have hl : (vsG n).length = n + 1 := by simp [vsG]
  rw [List.drop_eq_getElem_cons (by rw [hl]; exact h)]
  congr 1
  simp [vsG]
end Go.Proofs.Ytgccankekflchaa
namespace Go.Proofs.Ytgccankekflchaa
open Go.RowKit Go.Maps Go.Shelf

theorem seqG_cons (f : Int → List (List Int × Int) × Option Int) (v : Int) (vs : List Int) : seqG f (v :: vs) = match (f v).2 with
    | some e => ((f v).1, some e)
    | none => ((f v).1 ++ (seqG f vs).1, (seqG f vs).2) := by
  show (match f v with
    | (xs, some e) => (xs, some e)
    | (xs, none) => (xs ++ (seqG f vs).1, (seqG f vs).2)) = _
  cases h : f v with
  | mk xs o => cases o <;> rfl
def fnG (g : Gm) (plan : List Pos) (k : Nat) (s : St) (fl : List Int) (lo : Int) (v : Int) : List (List Int × Int) × Option Int :=
  match turnR g plan s v with
    | .error e => ([], some e)
    | .ok y => gamesL g plan k y.1 (fl ++ [v]) (lo + y.2)
theorem gamesL_succ (g : Gm) (plan : List Pos) (k : Nat) (s : St) (fl : List Int) (lo : Int) : gamesL g plan (k + 1) s fl lo = seqG (fnG g plan k s fl lo) ((vsG s.starts.length).filter (mvOk s)) := rfl
theorem wpl_row {P : Program} {ops : Array Oper} {rest : List Oper} {dst : Option Tmp} {tt : TypeId} {pos : String} {after : Array Edge} {a : Act} {w : World} {Q : Exit → Act → World → Prop} (ty : TypeId) (x : Operand)
    (b o : Nat) (cs : List Value) (d : TypeDesc) (hx : a.eval x = .pointer (some ⟨b, o, none⟩)) (hc : w.rangeAt b o cs) (hu : P.underlying ty = some d) (hd : d.isRow = true) (hi : (P.info? ty).map (·.size) = some cs.length)
    (h : wpList P ops Q rest (a.put dst (.agg cs.toArray)) w) : wpList P ops Q ({ dst := dst, op := .load ty x, type := tt, pos := pos, after := after, guard := none } :: rest) a w :=
  wpList_load_mid rfl ty x rfl b o hx cs d hc hu hd hi h
theorem wpl_rowSt {P : Program} {ops : Array Oper} {rest : List Oper} {dst : Option Tmp} {tt : TypeId} {pos : String} {after : Array Edge} {a : Act} {w : World} {Q : Exit → Act → World → Prop} (ty : TypeId) (x y : Operand)
    (b o : Nat) (cells : Array Value) (hx : a.eval x = .pointer (some ⟨b, o, none⟩)) (hy : a.eval y = .agg cells) (ht : w.there b o cells.size) (hi : (P.info? ty).map (·.size) = some cells.size) (h1 : cells.all (·.oneCell') = true)
    (h : wpList P ops Q rest (a.put dst undef) (w.setCells b o cells.toList)) : wpList P ops Q ({ dst := dst, op := .store ty x y, type := tt, pos := pos, after := after, guard := none } :: rest) a w :=
  wpList_store_mid rfl ty x y rfl b o cells hx hy ht hi h1 h
/-- what is known before a round -/
structure FrL (K : GaK) (S : Nat → Prop) (J : List (List Int × Int) → World → Prop) (pre : List (List Int × Int)) (f : Int → List (List Int × Int) × Option Int) (vs : List Int) (R : List (List Int × Int) × Option Int) (s : St) (X : Nat) (w wr : World) : Prop where
  i : GaI K wr
  x : BoxAt wr X (pyC s)
  c : Chg S w wr
  j : ∃ ys, J (pre ++ ys) wr ∧ R = (ys ++ (seqG f vs).1, (seqG f vs).2)
/-- what the region that calls itself keeps -/
structure FrJ (B ln : Nat) (fl : List Int) (v : Int) (w6 : World) (b5 b6 : Value) (l5 l6 : Bool) (w : World) : Prop where
  b : Below w6.heap.size w6 w
  k5 : l5 = true → ∃ nb, b5 = .slice (some ⟨nb, 0, none⟩) 1 1 ∧ BoxAt w nb [.int .i64 v]
  k6 : l6 = true → ∃ a c, b6 = .slice a (ln + 1) c ∧ IntsN B w a (fl ++ [v]) ∧ ln + 1 ≤ c
section
variable {B ln : Nat} {fl : List Int} {v : Int} {w6 w w' : World} {b5 b6 : Value} {l5 l6 : Bool}
theorem IntsN.later {a : Option Addr} {l : List Int} (h : IntsN B w a l) (hb : Below w.heap.size w w') : IntsN B w' a l := h.chg (S := fun _ => False) (Chg.of_below hb) fun _ h => h.elim
theorem FrJ.later (h : FrJ B ln fl v w6 b5 b6 l5 l6 w) (hb : Below w.heap.size w w') : FrJ B ln fl v w6 b5 b6 l5 l6 w' := by
  refine ⟨h.b.trans (hb.mono h.b.size), fun e => ?_, fun e => ?_⟩
  · obtain ⟨nb, e1, e2⟩ := h.k5 e
    exact ⟨nb, e1, e2.later hb⟩
  · obtain ⟨a, c, e1, e2, e3⟩ := h.k6 e
    exact ⟨a, c, e1, e2.later hb, e3⟩
theorem FrJ.made (h : FrJ B ln fl v w6 b5 b6 false false w) : FrJ B ln fl v w6 (.slice (some ⟨w.heap.size, 0, none⟩) 1 1) b6 true false (w.alloc (.cells #[.int .i64 v] 3)) := by
  have h' := h.later (w' := w.alloc (.cells #[.int .i64 v] 3)) ((Below.refl _ _).alloc (Nat.le_refl _) _)
  exact ⟨h'.b, fun _ => ⟨_, rfl, BoxAt.new w [.int .i64 v] _⟩, fun e => (by cases e)⟩
theorem FrJ.app {a : Option Addr} {c : Nat} (h : FrJ B ln fl v w6 b5 b6 true false w) (hb : Below w.heap.size w w') (hi : IntsN B w' a (fl ++ [v])) (hc : ln + 1 ≤ c) : FrJ B ln fl v w6 b5 (.slice a (ln + 1) c) true true w' := by
  have h' := h.later hb
  exact ⟨h'.b, h'.k5, fun _ => ⟨a, c, rfl, hi, hc⟩⟩
end
end Go.Proofs.Ytgccankekflchaa
namespace Go.Proofs.Ytgccankekflchaa.PF
open Go Go.RowKit
/-- a panic leaves PN -/
def panQ (PN : List PanicEntry → World → Prop) : Exit → Act → World → Prop
  | .panic ch, _, w => PN ch w
  | _, _, _ => False
section
variable {P : Program} {ops : Array Oper} {PN : List PanicEntry → World → Prop}
/-- what is to be shown of operation i: its value, a function of the ghosts of operations that it waits for; and that it keeps the invariant -/
def Ob (PN : List PanicEntry → World → Prop) (P : Program) (ops : Array Oper) (I : Inv0) (i : Nat) (o : Oper) (A : (Nat → Value) → Act) (v : (Nat → Value) → Value) : Prop :=
  (∀ β k b, reach ops ops.size k i = false → v (updG β k b) = v β) ∧
  ∀ β L w, I β L w → At ops L i →
    (Region.wanted o (yielded ops (A β).tmps) = true ∧ o.wp P (A β) w (fun a' w' => ∃ b, a' = (A β).put o.dst (v (updG β i b)) ∧ I (updG β i b) (setL L i) w') (panQ PN)) ∨
    (Region.wanted o (yielded ops (A β).tmps) = false ∧ ∃ b, undef = v (updG β i b) ∧ I (updG β i b) (setL L i) w)
/-- operation by operation, in the text's order -/
def Flow (PN : List PanicEntry → World → Prop) (P : Program) (ops : Array Oper) (I : Inv0) (K : ((Nat → Value) → Act) → Prop) : List Oper → Nat → ((Nat → Value) → Act) → Prop
  | [], _, A => K A
  | o :: l, i, A => ∃ v, Ob PN P ops I i o A v ∧ Flow PN P ops I K l (i + 1) (fun β => (A β).put o.dst (v β))

theorem flow_vals {I : Inv0} {K : ((Nat → Value) → Act) → Prop} : ∀ (l : List Oper) (i : Nat) (A : (Nat → Value) → Act), ops.toList.drop i = l → Flow PN P ops I K l i A →
    ∃ val : Nat → (Nat → Value) → Value, (∀ c o, l[c]? = some o → Ob PN P ops I (i + c) o (fun β => from' ops (fun j => val j β) (A β) i c) (val (i + c))) ∧ K (fun β => from' ops (fun j => val j β) (A β) i l.length)
  | [], i, A, _, h => ⟨fun _ _ => undef, fun c o hc => by simp at hc, h⟩
  | o :: l, i, A, hl, h => by
    obtain ⟨v, hob, hr⟩ := h
    have hi : ops[i]? = some o := by
      have : (ops.toList.drop i)[0]? = some o := by rw [hl]; rfl
      rw [List.getElem?_drop] at this
      simpa using this
    have hl' : ops.toList.drop (i + 1) = l := by
      rw [← List.drop_drop, hl]
      rfl
    obtain ⟨val, h1, h2⟩ := flow_vals l (i + 1) _ hl' hr
    have hd : o.dst = dstOf ops i := (dstOf_some hi).symm
    have key : ∀ β c, from' ops (fun j => val j β) ((A β).put o.dst (v β)) (i + 1) c = from' ops (fun j => (if j = i then v else val j) β) (A β) i (c + 1) := fun β c => by
      rw [← from_left, hd]
      simp only [if_true]
      exact from_congr _ _ (fun j hj => by rw [if_neg (by omega)]) c
    refine ⟨fun j => if j = i then v else val j, fun c o' hc => ?_, ?_⟩
    · cases c with
      | zero =>
        simp at hc
        subst hc
        simpa [from'] using hob
      | succ c =>
        have h3 := h1 c o' (by simpa using hc)
        rw [show i + (c + 1) = i + 1 + c by omega]
        have e0 : (fun j => if j = i then v else val j) (i + 1 + c) = val (i + 1 + c) := if_neg (by omega)
        rw [e0]
        have e : (fun β => from' ops (fun j => val j β) ((A β).put o.dst (v β)) (i + 1) c) = (fun β => from' ops (fun j => (if j = i then v else val j) β) (A β) i (c + 1)) := funext fun β => key β c
        rw [e] at h3
        exact h3
    · have e : (fun β => from' ops (fun j => val j β) ((A β).put o.dst (v β)) (i + 1) l.length) = (fun β => from' ops (fun j => (if j = i then v else val j) β) (A β) i (l.length + 1)) := funext fun β => key β _
      rw [e] at h2
      exact h2

/-- the region -/
theorem wpAny_flow {Q : Exit → Act → World → Prop} {a : Act} {w : World} (I : Inv0) 
    (hpan : ∀ ch a2 w2, a2.defers = a.defers → PN ch w2 → Q (.panic ch) a2 w2) (hok : flowOk ops = true)
    (β0 : Nat → Value) (h0 : I β0 (fun i => decide (ops.size ≤ i)) { w with drawn := w.drawn + 1 })
    (h : Flow PN P ops I (fun A => ∀ β w', I β (fun _ => true) w' → Q .normal (A β) w') ops.toList 0 (fun _ => a)) : wpAny P .any ops Q ops.size (Array.replicate ops.size false) a { w with drawn := w.drawn + 1 } := by
  obtain ⟨val, hob, hend⟩ := flow_vals ops.toList 0 _ (by simp) h
  have hsel := Region.noSelect_spec (flowOk_sel hok)
  have hob' : ∀ i o, ops[i]? = some o → Ob PN P ops I i o (fun β => puts (dstOf ops) (fun j => val j β) (fun _ => true) a i) (val i) := fun i o hi => by
    have := hob i o (by simpa using hi)
    simp only [Nat.zero_add, from_puts] at this
    exact this
  simp only [from_puts, Array.length_toList] at hend
  have hdist : ∀ i k t, k ≠ i → dstOf ops i = some t → dstOf ops k ≠ some t := fun i k t hne hi hk => by
    unfold dstOf at hi hk
    cases hoi : ops[i]? with
    | none => rw [hoi] at hi; cases hi
    | some oi =>
      cases hok' : ops[k]? with
      | none => rw [hok'] at hk; cases hk
      | some ok =>
        rw [hoi] at hi
        rw [hok'] at hk
        exact ((flowOk_row hok hok').2 i oi t hoi hi).1 hne hk
  suffices hmain : ∀ (fuel : Nat) (listed : Array Bool) (β : Nat → Value) (w' : World), listed.size = ops.size → (List.range ops.size).countP (fun i => !listed.getD i true) ≤ fuel →
      (∀ i j, listed.getD i true = true → i < ops.size → preOf ops j i = true → listed.getD j true = true) →
      I β (fun i => listed.getD i true) w' → wpAny P .any ops Q fuel listed (puts (dstOf ops) (fun j => val j β) (fun i => listed.getD i true) a ops.size) w' by
    have e0 : (fun i => (Array.replicate ops.size false).getD i true) = (fun i => decide (ops.size ≤ i)) := funext fun i => by
      rw [Array.getD_eq_getD_getElem?, Array.getElem?_replicate]
      by_cases hi : i < ops.size
      · rw [if_pos hi]; simp; omega
      · rw [if_neg hi]; simp; omega
    have ea : ∀ n, n ≤ ops.size → puts (dstOf ops) (fun j => val j β0) (fun i => decide (ops.size ≤ i)) a n = a := fun n => by
      induction n with
      | zero => intro _; rfl
      | succ n ih =>
        intro hn
        unfold puts
        rw [if_neg (by simp; omega)]
        exact ih (by omega)
    have := hmain ops.size (Array.replicate ops.size false) β0 _ (by simp) (by
      have := List.countP_le_length (p := fun i => !(Array.replicate ops.size false).getD i true) (l := List.range ops.size)
      simpa using this) (fun i j hi hlt _ => by
        have := congrFun e0 i
        rw [hi] at this
        have := of_decide_eq_true this.symm
        omega) (by rw [e0]; exact h0)
    rw [e0, ea _ (Nat.le_refl _)] at this
    exact this
  intro fuel
  induction fuel with
  | zero =>
    intro listed β w' hsz hcnt _ hI
    have hall : ∀ i, listed.getD i true = true := fun i => by
      rcases Nat.lt_or_ge i ops.size with hi | hi
      · have h1 := List.countP_eq_zero.1 (Nat.le_zero.1 hcnt) i (List.mem_range.2 hi)
        simpa using h1
      · rw [Array.getD_eq_getD_getElem?, Array.getElem?_eq_none (by omega)]; rfl
    refine ⟨?_, ?_⟩
    · rw [List.eq_nil_iff_forall_not_mem]
      intro i hi
      have := (mem_ready.1 hi).1
      rw [hall i] at this
      cases this
    · have e : (fun i => listed.getD i true) = fun _ => true := funext hall
      rw [e] at hI ⊢
      exact hend β w' hI
  | succ fuel ih =>
    intro listed β w' hsz hcnt hdc hI
    refine ⟨fun hnil => ?_, fun i hi => ?_⟩
    · have hall : ∀ i, listed.getD i true = true := fun i => by
        induction i using Nat.strongRecOn with
        | _ i ihs =>
          cases hl : listed.getD i true with
          | true => rfl
          | false =>
            rcases Nat.lt_or_ge i ops.size with hlt | hge
            · have hoi : ops[i]? = some ops[i] := Array.getElem?_eq_getElem hlt
              have : i ∈ Region.ready .any ops listed := mem_ready.2 ⟨hl, ops[i], hoi, fun e he hb => by
                have h1 := ihs e.on ((flowOk_row hok hoi).1 e he hb)
                have h2 : e.on < listed.size := by have := (flowOk_row hok hoi).1 e he hb; omega
                rw [Array.getD_eq_getD_getElem?, Array.getElem?_eq_getElem h2] at h1 ⊢
                exact h1⟩
              rw [hnil] at this
              cases this
            · rw [Array.getD_eq_getD_getElem?, Array.getElem?_eq_none (by omega)] at hl
              cases hl
      have e : (fun i => listed.getD i true) = fun _ => true := funext hall
      rw [e] at hI ⊢
      exact hend β w' hI
    · obtain ⟨hun, o, ho, hall⟩ := mem_ready.1 hi
      have hlt : i < ops.size := (Array.getElem?_eq_some_iff.1 ho).1
      obtain ⟨hindep, hstep⟩ := hob' i o ho
      have hpre : ∀ j, preOf ops j i = true → listed.getD j true = true := fun j hj => by
        unfold preOf at hj
        rw [ho] at hj
        obtain ⟨e, he, hb⟩ := Array.any_eq_true'.1 hj
        simp only [Bool.and_eq_true, beq_iff_eq] at hb
        have h1 := hall e he hb.1
        rw [hb.2] at h1
        have h2 : j < listed.size := by
          rcases Nat.lt_or_ge j listed.size with h' | h'
          · exact h'
          · rw [Array.getD_eq_getD_getElem?, Array.getElem?_eq_none h'] at h1; cases h1
        rw [Array.getD_eq_getD_getElem?, Array.getElem?_eq_getElem h2] at h1 ⊢
        exact h1
      have hlook : ∀ t ∈ o.looksAt ops, (puts (dstOf ops) (fun j => val j β) (fun i => listed.getD i true) a ops.size).tmps[t]? = (puts (dstOf ops) (fun j => val j β) (fun _ => true) a i).tmps[t]? := fun t ht => by
        by_cases hex : ∃ j, j < ops.size ∧ dstOf ops j = some t
        · obtain ⟨j, hj, hdj⟩ := hex
          have hoj : ops[j]? = some ops[j] := Array.getElem?_eq_getElem hj
          have hd' := hdj
          rw [dstOf_some hoj] at hd'
          rcases ((flowOk_row hok ho).2 j ops[j] t hoj hd').2 ht with ⟨h1, h2⟩ | ⟨h1, h2⟩
          · rw [puts_in (hpre j h2) hdj _ hj (fun k _ hkj => hdist j k t hkj hdj), puts_in rfl hdj _ h1 (fun k _ hkj => hdist j k t hkj hdj)]
          · have hLj : listed.getD j true = false := by
              cases hLj : listed.getD j true with
              | false => rfl
              | true =>
                have hLi : listed.getD i true = true := by
                  rcases h2 with h2 | h2
                  · exact hdc j i hLj hj h2
                  · exact reach_down (L := fun j => listed.getD j true) (fun j hj => by
                      show listed.getD j true = true
                      rw [Array.getD_eq_getD_getElem?, Array.getElem?_eq_none (by omega)]; rfl) (fun i j h1 h2 h3 => hdc i j h1 h2 h3) _ _ _ hLj h2
                rw [hun] at hLi
                cases hLi
            rw [puts_un (dst := dstOf ops) (v := fun j => val j β) (L := fun i => listed.getD i true) (a := a) (t := t) hLj _ (fun k _ hkj => hdist j k t hkj hdj), puts_out (dst := dstOf ops) (v := fun j => val j β) (L := fun _ => true) (a := a) (t := t) i (fun k hk hd => by
              by_cases e : k = j
              · omega
              · exact hdist j k t e hdj hd)]
        · rw [puts_out _ (fun j hj hd => hex ⟨j, hj, hd⟩), puts_out _ (fun j hj hd => hex ⟨j, by omega, hd⟩)]
      have hexec : execOp (puts (dstOf ops) (fun j => val j β) (fun i => listed.getD i true) a ops.size).eval o = execOp (puts (dstOf ops) (fun j => val j β) (fun _ => true) a i).eval o :=
        execOp_congr o (fun cs b => hsel i o cs b ho) fun x hx => by
          cases x with
          | tmp t => exact eval_of_get (hlook t (List.mem_append_left _ (List.mem_filterMap.2 ⟨.tmp t, by simpa using hx, rfl⟩)))
          | _ => rfl
      have hwant := wanted_congr o hlook
      have hsz2 : (puts (dstOf ops) (fun j => val j β) (fun i => listed.getD i true) a ops.size).tmps.size = (puts (dstOf ops) (fun j => val j β) (fun _ => true) a i).tmps.size := by
        rw [puts_size, puts_size]
      have eL : (fun j => (listed.setIfInBounds i true).getD j true) = setL (fun j => listed.getD j true) i := funext fun j => by
        by_cases hji : j = i
        · subst hji
          rw [setL_at, Array.getD_eq_getD_getElem?]
          simp [hsz, hlt]
        · rw [setL_ne _ hji, getD_set_ne true (fun e => hji e.symm)]
      have hdc' : ∀ k j, (listed.setIfInBounds i true).getD k true = true → k < ops.size → preOf ops j k = true → (listed.setIfInBounds i true).getD j true = true := fun k j hk hks hp => by
        have e1 := congrFun eL k
        have e2 := congrFun eL j
        rw [e1] at hk
        rw [e2]
        by_cases hji : j = i
        · rw [hji, setL_at]
        · rw [setL_ne _ hji]
          by_cases hki : k = i
          · subst hki; exact hpre j hp
          · rw [setL_ne _ hki] at hk; exact hdc k j hk hks hp
      have hcnt' : (List.range ops.size).countP (fun j => !(listed.setIfInBounds i true).getD j true) ≤ fuel := by
        have hlt2 : (List.range ops.size).countP (fun j => !(listed.setIfInBounds i true).getD j true) < (List.range ops.size).countP (fun j => !listed.getD j true) := by
          have hpr : ∀ j, (!(listed.setIfInBounds i true).getD j true) = (!(listed.getD j true) && decide (j ≠ i)) := fun j => by
            have e1 := congrFun eL j
            rw [e1]
            by_cases hji : j = i
            · subst hji; simp [setL_at]
            · simp [setL_ne _ hji, hji]
          simp only [hpr]
          obtain ⟨l1, l2, hl⟩ := List.append_of_mem (List.mem_range.2 hlt)
          rw [hl, List.countP_append, List.countP_append, List.countP_cons, List.countP_cons]
          have m1 := List.countP_mono_left (l := l1) (p := fun j => !(listed.getD j true) && decide (j ≠ i)) (q := fun j => !listed.getD j true) (fun x _ hx => by simp only [Bool.and_eq_true] at hx; exact hx.1)
          have m2 := List.countP_mono_left (l := l2) (p := fun j => !(listed.getD j true) && decide (j ≠ i)) (q := fun j => !listed.getD j true) (fun x _ hx => by simp only [Bool.and_eq_true] at hx; exact hx.1)
          have e1 : (if (!(listed.getD i true) && decide (i ≠ i)) = true then 1 else 0) = 0 := by simp
          have e2 : (if (!listed.getD i true) = true then 1 else 0) = 1 := by rw [hun]; rfl
          rw [e1, e2]
          omega
        omega
      have done : ∀ b w2 v', (puts (dstOf ops) (fun j => val j β) (fun _ => true) a i).put o.dst v' = (puts (dstOf ops) (fun j => val j β) (fun _ => true) a i).put o.dst (val i (updG β i b)) →
          I (updG β i b) (setL (fun i => listed.getD i true) i) w2 →
          wpAny P .any ops Q fuel (listed.setIfInBounds i true) ((puts (dstOf ops) (fun j => val j β) (fun i => listed.getD i true) a ops.size).put o.dst v') w2 := fun b w2 v' hv hI' => by
        have h1 := ih (listed.setIfInBounds i true) (updG β i b) w2 (by simp [hsz]) hcnt' hdc' (by rw [eL]; exact hI')
        rw [eL] at h1
        rw [put_same hv hsz2, ← dstOf_some ho]
        rw [puts_set hun (fun k t => hdist i k t) _ hlt] at h1
        rw [puts_congr (v' := fun j => val j (updG β i b)) (L' := fun i => listed.getD i true) _ (fun _ _ => rfl) (fun j hj hLj => ?_)]
        · exact h1
        · obtain ⟨hin, _⟩ := hob' j ops[j] (Array.getElem?_eq_getElem hj)
          refine (hin β i b ?_).symm
          cases hr : reach ops ops.size i j with
          | false => rfl
          | true =>
            have := reach_down (L := fun j => listed.getD j true) (fun j hj => by
              show listed.getD j true = true
              rw [Array.getD_eq_getD_getElem?, Array.getElem?_eq_none (by omega)]; rfl) (fun i j h1 h2 h3 => hdc i j h1 h2 h3) _ _ _ hLj hr
            rw [hun] at this
            cases this
      have hs := hstep β (fun j => listed.getD j true) w' hI ⟨hun, hpre, hdc, fun j hj => by
        show listed.getD j true = true
        rw [Array.getD_eq_getD_getElem?, Array.getElem?_eq_none (by omega)]; rfl⟩
      unfold wpOp
      rw [ho]
      dsimp only
      rw [hwant]
      rcases hs with ⟨hw, hwp⟩ | ⟨hw, b, hb, hI'⟩
      · rw [if_pos hw]
        refine .inl ?_
        unfold Oper.wp at hwp ⊢
        rw [hexec]
        generalize (execOp (puts (dstOf ops) (fun j => val j β) (fun _ => true) a i).eval o).run P w' = r at hwp ⊢
        cases r with
        | ok n w2 =>
          cases n <;> simp only [Oper.upon] at hwp ⊢
          case value u =>
            obtain ⟨b, hb, hI'⟩ := hwp
            exact done b _ _ hb hI'
          case skip =>
            obtain ⟨b, hb, hI'⟩ := hwp
            exact done b _ _ hb hI'
          case defer d =>
            obtain ⟨b, hb, _⟩ := hwp
            exfalso
            have h1 := congrArg (fun x : Act => x.defers.length) hb
            rw [← Act.put_defers] at h1
            cases hd : o.dst <;> rw [hd] at h1 <;> simp [Act.put] at h1
          case enter f args =>
            refine Calls.mono hwp fun e w3 he => ?_
            cases e with
            | returned u =>
              obtain ⟨b, hb, hI'⟩ := he
              exact done b _ _ hb hI'
            | panicked c => exact hpan _ _ _ (by first | rfl | (rw [puts_defers]) | simp [Act.put, puts_defers]) he
            | outgrown => obtain ⟨_, _, hf⟩ := he; exact False.elim hf
          case row row args =>
            refine Rows.mono hwp fun u w3 he => ?_
            obtain ⟨b, hb, hI'⟩ := he
            exact done b _ _ hb hI'
        | halt x w2 =>
          cases x <;> simp only [Oper.upon] at hwp ⊢
          all_goals first | exact hwp.elim | exact hpan _ _ _ (puts_defers _) hwp
      · rw [hw]
        simp only [Bool.false_eq_true, if_false]
        exact done b _ _ (by rw [hb]) hI'

/-! ### a region whose last operation writes -/
theorem wp_flow {id : Nat} {Q : Exit → Act → World → Prop} {a : Act} {w : World} (I : Inv0) 
    (hpan : ∀ ch a2 w2, a2.defers = a.defers → PN ch w2 → Q (.panic ch) a2 w2) (hm : P.follows .mixedOrders = true) (hok : flowOk ops = true)
    (β0 : Nat → Value) (h0 : I β0 (fun i => decide (ops.size ≤ i)) { w with drawn := w.drawn + 1 })
    (h : Flow PN P ops I (fun A => ∀ β w', I β (fun _ => true) w' → Q .normal (A β) w') ops.toList 0 (fun _ => a)) : (Code.region id ops true).wp P Q a w :=
  wp_region_any hm (wpAny_flow I hpan hok β0 h0 h)
end
section
variable {PN : List PanicEntry → World → Prop} {P : Program} {ops : Array Oper} {J : (Nat → Value) → (Nat → Bool) → World → Prop} {K : ((Nat → Value) → Act) → Prop} {o : Oper} {l : List Oper} {i : Nat} {A : (Nat → Value) → Act}
/-- what only reads, and yields the same in every order -/
theorem FlowJ.pure {v : Value} (hw : ∀ β, Region.wanted o (yielded ops (A β).tmps) = true)
    (hJ : ∀ β L w, J β L w → At ops L i → J β (setL L i) w)
    (hr : ∀ β L w, J β L w → At ops L i → (execOp (A β).eval o).run P w = .ok (.value v) w)
    (rest : Flow PN P ops J K l (i + 1) (fun β => (A β).put o.dst v)) : Flow PN P ops J K (o :: l) i A := by
  refine ⟨fun _ => v, ⟨fun _ _ _ _ => rfl, fun β L w h hat => .inl ⟨hw β, ?_⟩⟩, rest⟩
  unfold Oper.wp
  rw [hr β L w h hat]
  refine ⟨β i, rfl, ?_⟩
  rw [updG_self]
  exact hJ β L w h hat
/-- what only reads; its value is a function of ghosts that came before it -/
theorem FlowJ.pureG {v : (Nat → Value) → Value} (hv : ∀ β k b, reach ops ops.size k i = false → v (updG β k b) = v β) (hv' : ∀ β b, v (updG β i b) = v β)
    (hw : ∀ β, Region.wanted o (yielded ops (A β).tmps) = true)
    (hJ : ∀ β L w, J β L w → At ops L i → J β (setL L i) w)
    (hr : ∀ β L w, J β L w → At ops L i → (execOp (A β).eval o).run P w = .ok (.value (v β)) w)
    (rest : Flow PN P ops J K l (i + 1) (fun β => (A β).put o.dst (v β))) : Flow PN P ops J K (o :: l) i A := by
  refine ⟨v, ⟨hv, fun β L w h hat => .inl ⟨hw β, ?_⟩⟩, rest⟩
  unfold Oper.wp
  rw [hr β L w h hat]
  refine ⟨β i, by rw [hv'], ?_⟩
  rw [updG_self]
  exact hJ β L w h hat
/-- a guarded operation that is not wanted -/
theorem FlowJ.skip (hw : ∀ β, Region.wanted o (yielded ops (A β).tmps) = false) (hJ : ∀ β L w, J β L w → At ops L i → J β (setL L i) w)
    (rest : Flow PN P ops J K l (i + 1) (fun β => (A β).put o.dst undef)) : Flow PN P ops J K (o :: l) i A := by
  refine ⟨fun _ => undef, ⟨fun _ _ _ _ => rfl, fun β L w h hat => .inr ⟨hw β, β i, rfl, ?_⟩⟩, rest⟩
  rw [updG_self]
  exact hJ β L w h hat
/-- what writes, and has no value -/
theorem FlowJ.eff (hw : ∀ β, Region.wanted o (yielded ops (A β).tmps) = true)
    (hr : ∀ β L w, J β L w → At ops L i → ∀ K' : Act → World → Prop, Hid (∀ w', J β (setL L i) w' → K' ((A β).put o.dst undef) w') → o.wp P (A β) w K' (panQ PN))
    (rest : Flow PN P ops J K l (i + 1) (fun β => (A β).put o.dst undef)) : Flow PN P ops J K (o :: l) i A := by
  refine ⟨fun _ => undef, ⟨fun _ _ _ _ => rfl, fun β L w h hat => .inl ⟨hw β, ?_⟩⟩, rest⟩
  refine hr β L w h hat _ fun w' hJ => ⟨β i, rfl, ?_⟩
  rw [updG_self]
  exact hJ
/-- what may write, and yields the same in every order -/
theorem FlowJ.call {v : Value} (hw : ∀ β, Region.wanted o (yielded ops (A β).tmps) = true)
    (hr : ∀ β L w, J β L w → At ops L i → ∀ K' : Act → World → Prop, Hid (∀ w', J β (setL L i) w' → K' ((A β).put o.dst v) w') → o.wp P (A β) w K' (panQ PN))
    (rest : Flow PN P ops J K l (i + 1) (fun β => (A β).put o.dst v)) : Flow PN P ops J K (o :: l) i A := by
  refine ⟨fun _ => v, ⟨fun _ _ _ _ => rfl, fun β L w h hat => .inl ⟨hw β, ?_⟩⟩, rest⟩
  refine hr β L w h hat _ fun w' hJ => ⟨β i, rfl, ?_⟩
  rw [updG_self]
  exact hJ
/-- what may write, and whose value hangs on the order: a ghost -/
theorem FlowJ.ghost (hw : ∀ β, Region.wanted o (yielded ops (A β).tmps) = true)
    (hr : ∀ β L w, J β L w → At ops L i → ∀ K' : Act → World → Prop, Hid (∀ b w', J (updG β i b) (setL L i) w' → K' ((A β).put o.dst b) w') → o.wp P (A β) w K' (panQ PN))
    (rest : Flow PN P ops J K l (i + 1) (fun β => (A β).put o.dst (β i))) : Flow PN P ops J K (o :: l) i A := by
  refine ⟨fun β => β i, ⟨fun β k b hk => ?_, fun β L w h hat => .inl ⟨hw β, ?_⟩⟩, rest⟩
  · refine updG_ne β b fun e => ?_
    subst e
    cases hs : ops.size <;> rw [hs] at hk <;> simp [reach] at hk
  · refine hr β L w h hat _ fun b w' hJ => ⟨b, by show _ = (A β).put o.dst (updG β i b i); rw [updG_at], hJ⟩
theorem FlowJ.stop (h : K A) : Flow PN P ops J K [] i A := h
/-- the region -/
theorem wp_flow_j {id : Nat} {Q : Exit → Act → World → Prop} {a : Act} {w0 : World} {l : List Oper} (J : (Nat → Value) → (Nat → Bool) → World → Prop) 
    (hpan : ∀ ch a2 w2, a2.defers = a.defers → PN ch w2 → Q (.panic ch) a2 w2) (hm : P.follows .mixedOrders = true) (hok : flowOk l.toArray = true)
    (h0 : J (fun _ => undef) (fun i => decide (l.length ≤ i)) w0.drew)
    (h : Flow PN P l.toArray J (fun A => ∀ β w', J β (fun _ => true) w' → Q .normal (A β) w') l 0 (fun _ => a)) : (Code.region id l.toArray true).wp P Q a w0 :=
  wp_flow J hpan hm hok (fun _ => undef) (by simpa using h0) h
end
end Go.Proofs.Ytgccankekflchaa.PF
namespace Go.Proofs.Ytgccankekflchaa.PF
open Go.RowKit Go.Maps Go.Shelf
set_option maxRecDepth 100000 in
set_option maxHeartbeats 8000000 in
theorem from_on (K : GaK) (hK : GaD K) (B n0 : Nat) (xs : List (List Int × Int)) (S : Nat → Prop) (J : List (List Int × Int) → World → Prop) (hY : GaY K B n0 xs S J) (k : Nat) (hrec : FromC K B n0 xs S J k) : FromC K B n0 xs S J (k + 1) := by
  intro s fl lo a c pre w hI hJ hin hcap hfl hlo hlo2 hD ht hpx hB
  obtain ⟨R, hR⟩ : ∃ R, R = gamesL K.g K.plan (k + 1) s fl lo := ⟨_, rfl⟩
  rw [← hR] at hpx ⊢
  rw [gamesL_succ, hD.ls] at hR
  have hJ0 : ∃ ys, J (pre ++ ys) w ∧ R = (ys ++ (seqG (fnG K.g K.plan k s fl lo) (((vsG K.g.starts.length).drop 0).filter (mvOk s))).1, (seqG (fnG K.g K.plan k s fl lo) (((vsG K.g.starts.length).drop 0).filter (mvOk s))).2) := ⟨[], by simpa using hJ, by simpa using hR⟩
  have h0 : a = none → fl.length = 0 := fun e => by
    rcases Nat.eq_zero_or_pos fl.length with h | h
    · exact h
    · obtain ⟨_, _, e2, _⟩ := hin 0 h
      rw [e] at e2; cases e2
  obtain ⟨n, hn⟩ : ∃ n, n = K.g.starts.length := ⟨_, rfl⟩
  obtain ⟨N, hN⟩ : ∃ N, N = K.g.deps.length := ⟨_, rfl⟩
  obtain ⟨bu, hbu⟩ : ∃ n, n = K.g.budget := ⟨_, rfl⟩
  obtain ⟨tn, htn⟩ : ∃ t, t = s.turn := ⟨_, rfl⟩
  obtain ⟨bs, hbs⟩ : ∃ b, b = s.budget := ⟨_, rfl⟩
  obtain ⟨ln, hln⟩ : ∃ n, n = fl.length := ⟨_, rfl⟩
  obtain ⟨C, hC⟩ : ∃ C, C = pyC s := ⟨_, rfl⟩
  have hlC : C.length = 15 := by rw [hC]; rfl
  have htl : s.turn < K.g.deps.length := by omega
  have hn6 : n ≤ 6 := by rw [hn]; exact hK.vg.1
  have hbs0 : 0 ≤ bs := by rw [hbs]; exact hD.b1
  have htN : (tn == (N : Int)) = false := by simpa using (show tn ≠ N by omega)
  have hC0 : C[0]? = some (.int .i64 tn) := by rw [hC, htn]; rfl
  have hC1 : C[1]? = some (.int .i64 n) := by rw [hC, hn, ← hD.ls]; rfl
  have hC2 : C[2]? = some (.int .i64 bs) := by rw [hC, hbs]; rfl
  have hCf : ∀ kn, kn < 6 → C[9 + kn]? = some (.bool (bg s.failed kn)) := fun kn h => by rw [hC]; exact pyC_failed h
  rw [← hn] at hJ0
  rw [← hln] at hcap hfl h0 ⊢
  unfold pyV
  rw [← hC]
  have HK := Lib.hid hK
  have HY := Lib.hid hY
  have HREC := Lib.hid hrec
  have HI := Lib.hid hI
  have HIN := Lib.hid hin
  have HD := Lib.hid hD
  have HPX := Lib.hid hpx
  have HJ0 := Lib.hid hJ0
  have HN := Lib.hid (And.intro hn (And.intro hN hbu))
  have HTN := Lib.hid (And.intro ht (And.intro htn hbs))
  have HLN := Lib.hid hln
  have HCAP := Lib.hid (And.intro hcap h0)
  have HC := Lib.hid hC
  have HLC := Lib.hid hlC
  have HTL := Lib.hid htl
  have HC012 := Lib.hid (And.intro hC0 (And.intro hC1 hC2))
  have HCF := Lib.hid hCf
  clear hK hY hrec hI hJ hin hD ht hpx hJ0 hR hn hN hbu htn hbs hln hC hlC htl hC0 hC1 hC2 hCf
  go_enter Try.func59, Try.ntmps59
  go_upto_region 1 with fail
  refine wp_named ?_
  intro w1 hw1
  obtain ⟨hb1, hs1, hx1, -⟩ := alloc1 w C _ w1 hw1
  have HI1 := Lib.hid (HI.out.later hb1)
  have HX1 := Lib.hid hx1
  have HB1 := Lib.hid hb1
  have c0 := (hx1 0 _ HC012.out.1).1
  have c1 := (HI1.out.p 1 _ rfl).1
  rw [← HN.out.2.1] at c1
  have HJ1 := Lib.hid (show ∃ ys, J (pre ++ ys) w1 ∧ R = (ys ++ (seqG (fnG K.g K.plan k s fl lo) (((vsG n).drop 0).filter (mvOk s))).1, (seqG (fnG K.g K.plan k s fl lo) (((vsG n).drop 0).filter (mvOk s))).2) from by
    obtain ⟨ys, h1, h2⟩ := HJ0.out
    exact ⟨ys, HY.out.j _ _ _ h1 (Chg.of_below hb1), h2⟩)
  clear hw1 hb1 hs1 hx1
  go_wp2_with fail
  clear c0 c1 htN
  go_loopg [10] (n + 2) (fun gk v10 wr => ∃ i, i ≤ n + 1 ∧ gk + i = n + 2 ∧ v10 = .int .i64 ((i : Int) - 1) ∧ FrL K S J pre (fnG K.g K.plan k s fl lo) (((vsG n).drop i).filter (mvOk s)) R s w.heap.size w wr)
  case atStart => exact ⟨0, by omega, by omega, rfl, ⟨HI1.out, by rw [← HC.out]; exact HX1.out, Chg.of_below HB1.out, HJ1.out⟩⟩
  case round =>
    obtain ⟨i, hi, hgi, rfl, hL⟩ := hrel
    obtain ⟨wq, hwq⟩ : ∃ wq, wq = wr := ⟨_, rfl⟩
    subst hwq
    obtain ⟨v, hv⟩ : ∃ v, v = (i : Int) - 1 := ⟨_, rfl⟩
    rw [← hv]
    have hxq := hL.x
    rw [← HC.out] at hxq
    have HIQ := Lib.hid hL.i
    have HXQ := Lib.hid hxq
    have HCQ := Lib.hid hL.c
    have HJQ := Lib.hid hL.j
    have c1 := (hxq 1 _ HC012.out.2.1).1
    clear hL hxq
    by_cases hlt : i < n + 1
    · have hvs := vs_drop hlt
      rw [← hv] at hvs
      have g1 : decide (v < (n : Int)) = true := decide_eq_true (by omega)
      have c2 := (HXQ.out 2 _ HC012.out.2.2).1
      have HLT := Lib.hid hlt
      have hvc : v = -1 ∨ ∃ kn : Nat, v = kn ∧ kn < n := by
        by_cases h : v = -1
        · exact .inl h
        · exact .inr ⟨v.toNat, by omega, by omega⟩
      rcases hvc with hv1 | ⟨kn, hvk, hkn⟩
      · have g2 : decide ((0 : Int) ≤ v) = false := decide_eq_false (by omega)
        have hok : mvOk s v = true := by unfold mvOk; rw [decide_eq_true (by omega : v < 0)]; rfl
        have HVS := Lib.hid (show ((vsG n).drop i).filter (mvOk s) = v :: ((vsG n).drop (i + 1)).filter (mvOk s) from by rw [hvs, List.filter_cons_of_pos hok])
        have hbg : (if 0 ≤ v then 1 else 0) ≤ s.budget := by rw [if_neg (by omega)]; have h := HTN.out.2.2; omega
        have hff : v = -1 ∨ ∃ x : Nat, v = x ∧ x < K.g.starts.length := .inl hv1
        have HV := Lib.hid hv
        have HV1 := Lib.hid hv1
        clear hvs hok hlt hv hv1
        obtain ⟨hd2, htd⟩ := turn_dom HK.out.vg (plan := K.plan) HD.out HTL.out hbg hff
        have htu := turn_any K.g K.sa K.da K.sc K.dc K.M K.mn K.plan s v wq (HK.out.gm.later HIQ.out.bl) HK.out.vg HIQ.out.m HD.out hd2 HTL.out hff
        have herr : ∀ n, turnR K.g K.plan s v = .error n → n = 2 ∨ n = 5 := fun n h => turnR_err h
        have hfn : fnG K.g K.plan k s fl lo v = match turnR K.g K.plan s v with
          | .error e => ([], some e)
          | .ok y => gamesL K.g K.plan k y.1 (fl ++ [v]) (lo + y.2) := rfl
        obtain ⟨r, hr⟩ : ∃ r, r = turnR K.g K.plan s v := ⟨_, rfl⟩
        rw [← hr] at htu hfn
        simp only [← hr] at htd herr
        unfold bdV pyV at htu
        rw [← HN.out.1, ← HN.out.2.1, ← HN.out.2.2, ← HC.out] at htu
        have HTU := Lib.hid htu
        have HFN := Lib.hid hfn
        have HTD := Lib.hid htd
        have HERR := Lib.hid herr
        have p0 := (HIQ.out.p 0 _ rfl).1
        have p1 := (HIQ.out.p 1 _ rfl).1
        have p2 := (HIQ.out.p 2 _ rfl).1
        have p3 := (HIQ.out.p 3 _ rfl).1
        rw [← HN.out.1] at p0
        rw [← HN.out.2.1] at p1
        rw [← HN.out.2.2] at p2
        clear htu hfn htd herr hr hd2 hbg hff
        go_wp2_with ((with_reducible refine wpl_row 92 _ w.heap.size 0 C _ ?_ (box_range HXQ.out) Try.underlying92 ?_ ?_ ?_); exact rfl; exact rfl; (rw [HLC.out]; kernel_rfl))
        refine Calls.mono HTU.out ?_
        rintro e w10 ⟨he, hb10⟩
        cases r with
        | error m =>
          have he2 : e = errP m := he
          subst he2
          refine ⟨rfl, ?_⟩
          obtain ⟨ys, hjy, hRy⟩ := HJQ.out
          have hR2 : R = (ys, some m) := by
            rw [hRy, HVS.out, seqG_cons, HFN.out]
            simp
          refine ⟨HIQ.out.later hb10, ?_, HCQ.out.trans (Chg.of_below hb10), .inr ⟨m, by rw [hR2], rfl⟩⟩
          rw [hR2]
          exact HY.out.j _ _ _ hjy (Chg.of_below hb10)
        | ok y =>
          have he2 : e = .returned (.tuple #[pyV y.1, .int .i64 y.2]) := he
          subst he2
          obtain ⟨hyD, hyt, hyb, hy2⟩ := HTD.out y rfl
          obtain ⟨s', one⟩ := y
          obtain ⟨C4, hC4⟩ : ∃ C4, C4 = pyC s' := ⟨_, rfl⟩
          have hone : 0 ≤ one ∧ one ≤ 1 := by rcases hy2 with h | h <;> (have h' : one = _ := h; omega)
          obtain ⟨RZ, hRZ⟩ : ∃ RZ, RZ = gamesL K.g K.plan k s' (fl ++ [v]) (lo + one) := ⟨_, rfl⟩
          have hFN : fnG K.g K.plan k s fl lo v = RZ := by rw [HFN.out, hRZ]
          obtain ⟨ys, hjy, hRy⟩ := HJQ.out
          rw [HVS.out, seqG_cons, hFN] at hRy
          have hpz : (pre ++ ys ++ RZ.1) <+: xs := by
            refine List.IsPrefix.trans ?_ HPX.out
            rw [List.append_assoc]
            refine (List.prefix_append_right_inj pre).2 ?_
            rw [hRy]
            refine (List.prefix_append_right_inj ys).2 ?_
            cases h : RZ.2 with
            | none => simp
            | some e => simp
          have hcl := fun (a' : Option Addr) (c' : Nat) (wy : World) (hi : GaI K wy) (hj : J (pre ++ ys) wy) (hin : IntsN B wy a' (fl ++ [v])) (hc : ln + 1 ≤ c') (hB : B ≤ wy.heap.size) => HREC.out s' (fl ++ [v]) (lo + one) a' c' (pre ++ ys) wy hi hj hin (by rw [List.length_append, ← HLN.out]; exact hc) (by rw [List.length_append, ← HLN.out, List.length_singleton]; omega) (by omega) (by omega) hyD (by have h' : s'.turn = s.turn + 1 := hyt; have := HTN.out; omega) (by rw [← hRZ]; exact hpz) hB
          have hlen1 : (fl ++ [v]).length = ln + 1 := by rw [List.length_append, ← HLN.out]; rfl
          simp only [← hRZ, hlen1] at hcl
          unfold pyV at hcl ⊢
          rw [← hC4] at hcl ⊢
          have HCL := Lib.hid hcl
          have HJY := Lib.hid hjy
          have HRY := Lib.hid hRy
          have HLC4 := Lib.hid (show C4.length = 15 by rw [hC4]; rfl)
          have HCO4 := Lib.hid (show ∃ u us, C4 = u :: us from ⟨_, _, hC4⟩)
          have HOC4 := Lib.hid (show ∀ u ∈ C4, u.oneCell' = true by rw [hC4]; exact pyC_one _)
          have HB10 := Lib.hid hb10
          have hZ10 : BoxAt (w10.alloc (.cells pyZ.toArray 92)) w10.heap.size pyZ := BoxAt.new _ _ _
          have HZ10 := Lib.hid hZ10
          clear hyD hyt hyb hy2 hC4 hRZ hFN hjy hRy hpz hcl hlen1 hb10 p0 p1 p2 p3 he hZ10 c1 c2
          go_upto_region 8 with ((with_reducible refine wpl_rowSt 92 _ _ w10.heap.size 0 C4.toArray ?_ ?_ (box_there HZ10.out ?_) ?_ (all_oneCell_toArray HOC4.out) ?_); exact rfl; exact rfl; (rw [List.size_toArray, HLC4.out]; rfl); (rw [List.size_toArray, HLC4.out]; kernel_rfl))
          refine wp_named ?_
          intro w6 hw6
          have hb6 : Below w10.heap.size w10 w6 := by rw [hw6]; exact below_setCells _ _ _ _ ((Below.refl _ _).alloc (Nat.le_refl _) _) (Nat.le_refl _)
          have HX6 := Lib.hid (show BoxAt w6 w10.heap.size C4 from by rw [hw6]; exact HZ10.out.stored (by rw [HLC4.out]; rfl))
          have HB6 := Lib.hid (HB10.out.trans (hb6.mono HB10.out.size))
          have HI6 := Lib.hid (HIQ.out.later HB6.out)
          have f0 := (HI6.out.f 0 _ rfl).1
          have lF := HI6.out.f.lt
          have lX : w10.heap.size < w6.heap.size := by
            have h := HX6.out
            obtain ⟨u, us, e⟩ := HCO4.out
            rw [e] at h
            exact h.lt
          have wlo : IntKind.i64.wrap (lo + one) = lo + one := IntWalk.i64_in _ (by omega)
          clear hw6 hb6
          obtain ⟨X6, hX6⟩ : ∃ X, X = w10.heap.size := ⟨_, rfl⟩
          rw [← hX6] at HX6 lX ⊢
          clear hX6
          refine wp_flow_j (PN := fun ch w' => RetFr K S J pre R w (.panicked ch) w') (fun β L' w' => (L' 10 = false → FrJ B ln fl v w6 (β 5) (β 6) (L' 5) (L' 6) w') ∧ (L' 10 = true → GaI K w' ∧ J (pre ++ ys ++ RZ.1) w' ∧ Chg S w6 w' ∧ RZ.2 = none)) (fun ch a2 w2 hd hp => ⟨hd, hp⟩) (by kernel_rfl) (by kernel_rfl) ?h9 ?_
          case h9 => exact ⟨fun _ => ⟨(Below.refl _ _).drew, fun e => (by cases e), fun e => (by cases e)⟩, fun e => by cases e⟩
          ((with_reducible refine FlowJ.pure (v := ?_) ?_ ?_ ?_ ?_); rotate_left 1; (focus (intro _; rfl)); (focus (intro β L' w' hJ hat; (try dsimp only at hJ); (try dsimp only); simpa only [setL, Nat.reduceEqDiff, if_false] using hJ)); (focus (intro β L' w' hJ hat; (try dsimp only at hJ); ((have n10 := hat.not (j := 10) (by kernel_rfl)); have hb := (hJ.1 n10).b; have f1 := cell_later hb f0); go_simp; (try with_reducible rfl); done)); (try simp only [Act.put, List.setIfInBounds_toArray, List.set_cons_zero, List.set_cons_succ, Nat.reduceAdd]))
          ((with_reducible refine FlowJ.pure (v := .agg C4.toArray) ?_ ?_ ?_ ?_); (focus (intro _; rfl)); (focus (intro β L' w' hJ hat; (try dsimp only at hJ); (try dsimp only); simpa only [setL, Nat.reduceEqDiff, if_false] using hJ)); (focus (intro β L' w' hJ hat; (try dsimp only at hJ); ((have n10 := hat.not (j := 10) (by kernel_rfl)); have hb := (hJ.1 n10).b; exact exec_load_mid 92 (.tmp 11) rfl X6 0 rfl _ _ (box_range (HX6.out.later hb)) Try.underlying92 rfl (by rw [HLC4.out]; kernel_rfl)))); (try simp only [Act.put, List.setIfInBounds_toArray, List.set_cons_zero, List.set_cons_succ, Nat.reduceAdd]))
          ((with_reducible refine FlowJ.pure (v := ?_) ?_ ?_ ?_ ?_); rotate_left 1; (focus (intro _; rfl)); (focus (intro β L' w' hJ hat; (try dsimp only at hJ); (try dsimp only); simpa only [setL, Nat.reduceEqDiff, if_false] using hJ)); (focus (intro β L' w' hJ hat; (try dsimp only at hJ); skip; go_simp; (try with_reducible rfl); done)); (try simp only [Act.put, List.setIfInBounds_toArray, List.set_cons_zero, List.set_cons_succ, Nat.reduceAdd]))
          ((with_reducible refine FlowJ.call (v := ?_) ?_ ?_ ?_); rotate_left 1; (focus (intro _; rfl)); (focus (intro β L' w' hJ hat K' hK; (try dsimp only at hJ); (go_simp; go_at_call 60; refine Calls.mono (clip_any a ln c w' HCAP.out.1 HCAP.out.2) ?_; rintro e w7 ⟨rfl, rfl⟩; refine hK.out _ ?_; simpa only [setL, Nat.reduceEqDiff, if_false] using hJ))); (try simp only [Act.put, List.setIfInBounds_toArray, List.set_cons_zero, List.set_cons_succ, Nat.reduceAdd]))
          ((with_reducible refine FlowJ.pure (v := ?_) ?_ ?_ ?_ ?_); rotate_left 1; (focus (intro _; rfl)); (focus (intro β L' w' hJ hat; (try dsimp only at hJ); (try dsimp only); simpa only [setL, Nat.reduceEqDiff, if_false] using hJ)); (focus (intro β L' w' hJ hat; (try dsimp only at hJ); skip; go_simp; (try with_reducible rfl); done)); (try simp only [Act.put, List.setIfInBounds_toArray, List.set_cons_zero, List.set_cons_succ, Nat.reduceAdd]))
          ((with_reducible refine FlowJ.ghost ?_ ?_ ?_); (focus (intro _; rfl)); (focus (intro β L' w' hJ hat K' hK; (try dsimp only at hJ); ((have n6 := hat.not (j := 6) (by kernel_rfl)); (have n10 := hat.not (j := 10) (by kernel_rfl)); have un := hat.un; simp only [un, n6, n10] at hJ; go_simp; refine hK.out _ _ ?_; simp only [updG, setL, Nat.reduceEqDiff, if_true, if_false, n6, n10]; exact ⟨fun _ => (hJ.1 trivial).made, fun e => by cases e⟩))); (try simp only [Act.put, List.setIfInBounds_toArray, List.set_cons_zero, List.set_cons_succ, Nat.reduceAdd]))
          have HA6 := Lib.hid (show IntsN B w6 a fl ∧ B ≤ w6.heap.size from ⟨(HIN.out.chg HCQ.out fun k hk => (HY.out.s k hk).2.1).later HB6.out, by have h1 := HCQ.out.size; have h2 := HB6.out.size; omega⟩)
          ((with_reducible refine FlowJ.ghost ?_ ?_ ?_); (focus (intro _; rfl)); (focus (intro β L' w' hJ hat K' hK; (try dsimp only at hJ); ((have p5 := hat.pre 5 (by kernel_rfl)); (have n10 := hat.not (j := 10) (by kernel_rfl)); have un := hat.un; simp only [un, p5, n10] at hJ; have hJ1 := hJ.1 trivial; obtain ⟨nb, e5, hbx⟩ := hJ1.k5 rfl; obtain ⟨a', c', w2', hr, hi, hc, hb⟩ := clip_app w' B nb a fl v (Nat.le_trans HA6.out.2 hJ1.b.size) (HA6.out.1.later hJ1.b) (by rw [← HLN.out]; omega) hbx; rw [← HLN.out] at hr hc; refine wp_app_eq (.tmp 53) (.tmp 55) 22 rfl (.slice a ln ln) (β 5) rfl rfl (by rw [e5]; exact hr) ?_; refine hK.out _ _ ?_; simp only [updG, setL, Nat.reduceEqDiff, if_true, if_false, n10, p5]; exact ⟨fun _ => hJ1.app hb hi hc, fun e => by cases e⟩))); (try simp only [Act.put, List.setIfInBounds_toArray, List.set_cons_zero, List.set_cons_succ, Nat.reduceAdd]))
          ((with_reducible refine FlowJ.pure (v := ?_) ?_ ?_ ?_ ?_); rotate_left 1; (focus (intro _; rfl)); (focus (intro β L' w' hJ hat; (try dsimp only at hJ); (try dsimp only); simpa only [setL, Nat.reduceEqDiff, if_false] using hJ)); (focus (intro β L' w' hJ hat; (try dsimp only at hJ); skip; go_simp; (try with_reducible rfl); done)); (try simp only [Act.put, List.setIfInBounds_toArray, List.set_cons_zero, List.set_cons_succ, Nat.reduceAdd]))
          ((with_reducible refine FlowJ.pure (v := ?_) ?_ ?_ ?_ ?_); rotate_left 1; (focus (intro _; rfl)); (focus (intro β L' w' hJ hat; (try dsimp only at hJ); (try dsimp only); simpa only [setL, Nat.reduceEqDiff, if_false] using hJ)); (focus (intro β L' w' hJ hat; (try dsimp only at hJ); skip; go_simp; (try with_reducible rfl); done)); (try simp only [Act.put, List.setIfInBounds_toArray, List.set_cons_zero, List.set_cons_succ, Nat.reduceAdd]))
          ((with_reducible refine FlowJ.pure (v := ?_) ?_ ?_ ?_ ?_); rotate_left 1; (focus (intro _; rfl)); (focus (intro β L' w' hJ hat; (try dsimp only at hJ); (try dsimp only); simpa only [setL, Nat.reduceEqDiff, if_false] using hJ)); (focus (intro β L' w' hJ hat; (try dsimp only at hJ); skip; go_simp; (try with_reducible rfl); done)); (try simp only [Act.put, List.setIfInBounds_toArray, List.set_cons_zero, List.set_cons_succ, Nat.reduceAdd]))
          ((with_reducible refine FlowJ.call (v := ?_) ?_ ?_ ?_); rotate_left 1; (focus (intro _; rfl)); (focus (intro β L' w' hJ hat K' hK; (try dsimp only at hJ); ((have p6 := hat.pre 6 (by kernel_rfl)); have un := hat.un; simp only [un, p6] at hJ; have hJ1 := hJ.1 trivial; obtain ⟨a', c', e6, hi6, hc6⟩ := hJ1.k6 rfl; have hcl := HCL.out a' c' w' (HI6.out.later hJ1.b) (HY.out.j _ _ _ HJY.out (Chg.of_below (HB6.out.trans (hJ1.b.mono HB6.out.size)))) hi6 hc6 (Nat.le_trans HA6.out.2 hJ1.b.size); rw [e6]; go_simp; go_at_call 59; refine Calls.mono hcl ?_; rintro e w7 ⟨h1, h2, h3, (⟨rfl, h4⟩ | ⟨m, h4, rfl⟩)⟩; (rw [← e6]; refine hK.out _ ⟨fun e => absurd e (by simp [setL]), fun _ => ⟨h1, h2, (Chg.of_below hJ1.b).trans h3, h4⟩⟩); (have hR2 : R = (ys ++ RZ.1, some m) := (by rw [HRY.out, h4])); refine (show RetFr K S J pre R w (.panicked _) w7 from ⟨h1, ?_, HCQ.out.trans ((Chg.of_below (HB6.out.trans (hJ1.b.mono HB6.out.size))).trans h3), .inr ⟨m, by rw [hR2], rfl⟩⟩); rw [hR2, ← List.append_assoc]; exact h2))); (try simp only [Act.put, List.setIfInBounds_toArray, List.set_cons_zero, List.set_cons_succ, Nat.reduceAdd]))
          ((with_reducible refine FlowJ.pure (v := ?_) ?_ ?_ ?_ ?_); rotate_left 1; (focus (intro _; rfl)); (focus (intro β L' w' hJ hat; (try dsimp only at hJ); (try dsimp only); simpa only [setL, Nat.reduceEqDiff, if_false] using hJ)); (focus (intro β L' w' hJ hat; (try dsimp only at hJ); skip; go_simp; (try with_reducible rfl); done)); (try simp only [Act.put, List.setIfInBounds_toArray, List.set_cons_zero, List.set_cons_succ, Nat.reduceAdd]))
          refine PF.FlowJ.stop ?_
          dsimp only
          intro β9 w9 hJ
          obtain ⟨hI9, hJ9, hC9, hz9⟩ := hJ.2 trivial
          have hC99 : Chg S wq w9 := (Chg.of_below HB6.out).trans hC9
          have wv : IntKind.i64.wrap (v + 1) = v + 1 := IntWalk.i64_in _ (by have := HV.out; omega)
          have HR9 := Lib.hid (show FrL K S J pre (fnG K.g K.plan k s fl lo) (((vsG n).drop (i + 1)).filter (mvOk s)) R s w.heap.size w w9 from by
            refine ⟨hI9, ?_, HCQ.out.trans hC99, ys ++ RZ.1, by rw [← List.append_assoc]; exact hJ9, ?_⟩
            · have h := HXQ.out
              rw [HC.out] at h
              exact h.chg hC99 (fun e => by have h1 := (HY.out.s _ e).2.1; omega) h.lt
            · rw [HRY.out, hz9, List.append_assoc])
          clear hJ hI9 hJ9 hC9 hz9 hC99 f0 lF lX wlo
          go_wp2_with fail
          go_roundg (n + 1 - i)
          case measure => have := HLT.out; omega
          case rel => exact ⟨i + 1, HLT.out, by have := HLT.out; omega, by have := HV.out; congr 1; omega, HR9.out⟩
      · subst hvk
        have g2 : decide ((0 : Int) ≤ (kn : Int)) = true := decide_eq_true (by omega)
        have k0 : (0 : Int) ≤ (kn : Int) := by omega
        have k1 : (kn : Int) < 6 := by omega
        have hbe : decide (s.budget = 0) = decide (bs = 0) := by rw [HTN.out.2.2]
        have hok : mvOk s (kn : Int) = (!decide (bs = 0) && !bg s.failed kn) := by
          unfold mvOk
          rw [decide_eq_false (by omega : ¬ (kn : Int) < 0), hbe, Int.toNat_natCast, Bool.false_or]
        obtain ⟨cf, cff⟩ := HXQ.out (9 + kn) _ (HCF.out kn (by omega))
        obtain ⟨b, hb⟩ : ∃ b, b = bg s.failed kn := ⟨_, rfl⟩
        rw [← hb] at cf hok
        have HV := Lib.hid hv
        have wv : IntKind.i64.wrap ((kn : Int) + 1) = (kn : Int) + 1 := IntWalk.i64_in _ (by omega)
        clear hv hbe hb cff hlt
        by_cases hb0 : bs = 0
        · subst hb0
          have HVS := Lib.hid (show ((vsG n).drop i).filter (mvOk s) = ((vsG n).drop (i + 1)).filter (mvOk s) from by rw [hvs, List.filter_cons_of_neg (by rw [hok]; simp)])
          have HR9 := Lib.hid (show FrL K S J pre (fnG K.g K.plan k s fl lo) (((vsG n).drop (i + 1)).filter (mvOk s)) R s w.heap.size w wq from ⟨HIQ.out, by rw [← HC.out]; exact HXQ.out, HCQ.out, by rw [← HVS.out]; exact HJQ.out⟩)
          clear hvs hok
          go_wp2_with fail
          go_roundg (n + 1 - i)
          case measure => have := HLT.out; omega
          case rel => exact ⟨i + 1, HLT.out, by have := HLT.out; omega, by have := HV.out; congr 1; omega, HR9.out⟩
        · have g3 : (bs == (0 : Int)) = false := by simpa using hb0
          cases b with
          | true =>
            have HVS := Lib.hid (show ((vsG n).drop i).filter (mvOk s) = ((vsG n).drop (i + 1)).filter (mvOk s) from by rw [hvs, List.filter_cons_of_neg (by rw [hok]; simp)])
            have HR9 := Lib.hid (show FrL K S J pre (fnG K.g K.plan k s fl lo) (((vsG n).drop (i + 1)).filter (mvOk s)) R s w.heap.size w wq from ⟨HIQ.out, by rw [← HC.out]; exact HXQ.out, HCQ.out, by rw [← HVS.out]; exact HJQ.out⟩)
            clear hvs hok
            go_wp2_with fail
            go_roundg (n + 1 - i)
            case measure => have := HLT.out; omega
            case rel => exact ⟨i + 1, HLT.out, by have := HLT.out; omega, by have := HV.out; congr 1; omega, HR9.out⟩
          | false =>
            have HVS := Lib.hid (show ((vsG n).drop i).filter (mvOk s) = (kn : Int) :: ((vsG n).drop (i + 1)).filter (mvOk s) from by rw [hvs, List.filter_cons_of_pos (by rw [hok, decide_eq_false hb0]; rfl)])
            have hbg : (if 0 ≤ (kn : Int) then 1 else 0) ≤ s.budget := by rw [if_pos k0]; have h := HTN.out.2.2; omega
            have hff : (kn : Int) = -1 ∨ ∃ x : Nat, (kn : Int) = x ∧ x < K.g.starts.length := .inr ⟨kn, rfl, by rw [← HN.out.1]; exact hkn⟩
            clear hvs hok wv
            obtain ⟨hd2, htd⟩ := turn_dom HK.out.vg (plan := K.plan) HD.out HTL.out hbg hff
            have htu := turn_any K.g K.sa K.da K.sc K.dc K.M K.mn K.plan s (kn : Int) wq (HK.out.gm.later HIQ.out.bl) HK.out.vg HIQ.out.m HD.out hd2 HTL.out hff
            have herr : ∀ n, turnR K.g K.plan s (kn : Int) = .error n → n = 2 ∨ n = 5 := fun n h => turnR_err h
            have hfn : fnG K.g K.plan k s fl lo (kn : Int) = match turnR K.g K.plan s (kn : Int) with
              | .error e => ([], some e)
              | .ok y => gamesL K.g K.plan k y.1 (fl ++ [(kn : Int)]) (lo + y.2) := rfl
            obtain ⟨r, hr⟩ : ∃ r, r = turnR K.g K.plan s (kn : Int) := ⟨_, rfl⟩
            rw [← hr] at htu hfn
            simp only [← hr] at htd herr
            unfold bdV pyV at htu
            rw [← HN.out.1, ← HN.out.2.1, ← HN.out.2.2, ← HC.out] at htu
            have HTU := Lib.hid htu
            have HFN := Lib.hid hfn
            have HTD := Lib.hid htd
            have HERR := Lib.hid herr
            have p0 := (HIQ.out.p 0 _ rfl).1
            have p1 := (HIQ.out.p 1 _ rfl).1
            have p2 := (HIQ.out.p 2 _ rfl).1
            have p3 := (HIQ.out.p 3 _ rfl).1
            rw [← HN.out.1] at p0
            rw [← HN.out.2.1] at p1
            rw [← HN.out.2.2] at p2
            clear htu hfn htd herr hr hd2 hbg hff
            go_wp2_with ((with_reducible refine wpl_row 92 _ w.heap.size 0 C _ ?_ (box_range HXQ.out) Try.underlying92 ?_ ?_ ?_); exact rfl; exact rfl; (rw [HLC.out]; kernel_rfl))
            refine Calls.mono HTU.out ?_
            rintro e w10 ⟨he, hb10⟩
            cases r with
            | error m =>
              have he2 : e = errP m := he
              subst he2
              refine ⟨rfl, ?_⟩
              obtain ⟨ys, hjy, hRy⟩ := HJQ.out
              have hR2 : R = (ys, some m) := by
                rw [hRy, HVS.out, seqG_cons, HFN.out]
                simp
              refine ⟨HIQ.out.later hb10, ?_, HCQ.out.trans (Chg.of_below hb10), .inr ⟨m, by rw [hR2], rfl⟩⟩
              rw [hR2]
              exact HY.out.j _ _ _ hjy (Chg.of_below hb10)
            | ok y =>
              have he2 : e = .returned (.tuple #[pyV y.1, .int .i64 y.2]) := he
              subst he2
              obtain ⟨hyD, hyt, hyb, hy2⟩ := HTD.out y rfl
              obtain ⟨s', one⟩ := y
              obtain ⟨C4, hC4⟩ : ∃ C4, C4 = pyC s' := ⟨_, rfl⟩
              have hone : 0 ≤ one ∧ one ≤ 1 := by rcases hy2 with h | h <;> (have h' : one = _ := h; omega)
              obtain ⟨RZ, hRZ⟩ : ∃ RZ, RZ = gamesL K.g K.plan k s' (fl ++ [(kn : Int)]) (lo + one) := ⟨_, rfl⟩
              have hFN : fnG K.g K.plan k s fl lo (kn : Int) = RZ := by rw [HFN.out, hRZ]
              obtain ⟨ys, hjy, hRy⟩ := HJQ.out
              rw [HVS.out, seqG_cons, hFN] at hRy
              have hpz : (pre ++ ys ++ RZ.1) <+: xs := by
                refine List.IsPrefix.trans ?_ HPX.out
                rw [List.append_assoc]
                refine (List.prefix_append_right_inj pre).2 ?_
                rw [hRy]
                refine (List.prefix_append_right_inj ys).2 ?_
                cases h : RZ.2 with
                | none => simp
                | some e => simp
              have hcl := fun (a' : Option Addr) (c' : Nat) (wy : World) (hi : GaI K wy) (hj : J (pre ++ ys) wy) (hin : IntsN B wy a' (fl ++ [(kn : Int)])) (hc : ln + 1 ≤ c') (hB : B ≤ wy.heap.size) => HREC.out s' (fl ++ [(kn : Int)]) (lo + one) a' c' (pre ++ ys) wy hi hj hin (by rw [List.length_append, ← HLN.out]; exact hc) (by rw [List.length_append, ← HLN.out, List.length_singleton]; omega) (by omega) (by omega) hyD (by have h' : s'.turn = s.turn + 1 := hyt; have := HTN.out; omega) (by rw [← hRZ]; exact hpz) hB
              have hlen1 : (fl ++ [(kn : Int)]).length = ln + 1 := by rw [List.length_append, ← HLN.out]; rfl
              simp only [← hRZ, hlen1] at hcl
              unfold pyV at hcl ⊢
              rw [← hC4] at hcl ⊢
              have HCL := Lib.hid hcl
              have HJY := Lib.hid hjy
              have HRY := Lib.hid hRy
              have HLC4 := Lib.hid (show C4.length = 15 by rw [hC4]; rfl)
              have HCO4 := Lib.hid (show ∃ u us, C4 = u :: us from ⟨_, _, hC4⟩)
              have HOC4 := Lib.hid (show ∀ u ∈ C4, u.oneCell' = true by rw [hC4]; exact pyC_one _)
              have HB10 := Lib.hid hb10
              have hZ10 : BoxAt (w10.alloc (.cells pyZ.toArray 92)) w10.heap.size pyZ := BoxAt.new _ _ _
              have HZ10 := Lib.hid hZ10
              clear hyD hyt hyb hy2 hC4 hRZ hFN hjy hRy hpz hcl hlen1 hb10 p0 p1 p2 p3 he hZ10 c1 c2
              go_upto_region 8 with ((with_reducible refine wpl_rowSt 92 _ _ w10.heap.size 0 C4.toArray ?_ ?_ (box_there HZ10.out ?_) ?_ (all_oneCell_toArray HOC4.out) ?_); exact rfl; exact rfl; (rw [List.size_toArray, HLC4.out]; rfl); (rw [List.size_toArray, HLC4.out]; kernel_rfl))
              refine wp_named ?_
              intro w6 hw6
              have hb6 : Below w10.heap.size w10 w6 := by rw [hw6]; exact below_setCells _ _ _ _ ((Below.refl _ _).alloc (Nat.le_refl _) _) (Nat.le_refl _)
              have HX6 := Lib.hid (show BoxAt w6 w10.heap.size C4 from by rw [hw6]; exact HZ10.out.stored (by rw [HLC4.out]; rfl))
              have HB6 := Lib.hid (HB10.out.trans (hb6.mono HB10.out.size))
              have HI6 := Lib.hid (HIQ.out.later HB6.out)
              have f0 := (HI6.out.f 0 _ rfl).1
              have lF := HI6.out.f.lt
              have lX : w10.heap.size < w6.heap.size := by
                have h := HX6.out
                obtain ⟨u, us, e⟩ := HCO4.out
                rw [e] at h
                exact h.lt
              have wlo : IntKind.i64.wrap (lo + one) = lo + one := IntWalk.i64_in _ (by omega)
              clear hw6 hb6
              obtain ⟨X6, hX6⟩ : ∃ X, X = w10.heap.size := ⟨_, rfl⟩
              rw [← hX6] at HX6 lX ⊢
              clear hX6
              refine wp_flow_j (PN := fun ch w' => RetFr K S J pre R w (.panicked ch) w') (fun β L' w' => (L' 10 = false → FrJ B ln fl (kn : Int) w6 (β 5) (β 6) (L' 5) (L' 6) w') ∧ (L' 10 = true → GaI K w' ∧ J (pre ++ ys ++ RZ.1) w' ∧ Chg S w6 w' ∧ RZ.2 = none)) (fun ch a2 w2 hd hp => ⟨hd, hp⟩) (by kernel_rfl) (by kernel_rfl) ?h9 ?_
              case h9 => exact ⟨fun _ => ⟨(Below.refl _ _).drew, fun e => (by cases e), fun e => (by cases e)⟩, fun e => by cases e⟩
              ((with_reducible refine FlowJ.pure (v := ?_) ?_ ?_ ?_ ?_); rotate_left 1; (focus (intro _; rfl)); (focus (intro β L' w' hJ hat; (try dsimp only at hJ); (try dsimp only); simpa only [setL, Nat.reduceEqDiff, if_false] using hJ)); (focus (intro β L' w' hJ hat; (try dsimp only at hJ); ((have n10 := hat.not (j := 10) (by kernel_rfl)); have hb := (hJ.1 n10).b; have f1 := cell_later hb f0); go_simp; (try with_reducible rfl); done)); (try simp only [Act.put, List.setIfInBounds_toArray, List.set_cons_zero, List.set_cons_succ, Nat.reduceAdd]))
              ((with_reducible refine FlowJ.pure (v := .agg C4.toArray) ?_ ?_ ?_ ?_); (focus (intro _; rfl)); (focus (intro β L' w' hJ hat; (try dsimp only at hJ); (try dsimp only); simpa only [setL, Nat.reduceEqDiff, if_false] using hJ)); (focus (intro β L' w' hJ hat; (try dsimp only at hJ); ((have n10 := hat.not (j := 10) (by kernel_rfl)); have hb := (hJ.1 n10).b; exact exec_load_mid 92 (.tmp 11) rfl X6 0 rfl _ _ (box_range (HX6.out.later hb)) Try.underlying92 rfl (by rw [HLC4.out]; kernel_rfl)))); (try simp only [Act.put, List.setIfInBounds_toArray, List.set_cons_zero, List.set_cons_succ, Nat.reduceAdd]))
              ((with_reducible refine FlowJ.pure (v := ?_) ?_ ?_ ?_ ?_); rotate_left 1; (focus (intro _; rfl)); (focus (intro β L' w' hJ hat; (try dsimp only at hJ); (try dsimp only); simpa only [setL, Nat.reduceEqDiff, if_false] using hJ)); (focus (intro β L' w' hJ hat; (try dsimp only at hJ); skip; go_simp; (try with_reducible rfl); done)); (try simp only [Act.put, List.setIfInBounds_toArray, List.set_cons_zero, List.set_cons_succ, Nat.reduceAdd]))
              ((with_reducible refine FlowJ.call (v := ?_) ?_ ?_ ?_); rotate_left 1; (focus (intro _; rfl)); (focus (intro β L' w' hJ hat K' hK; (try dsimp only at hJ); (go_simp; go_at_call 60; refine Calls.mono (clip_any a ln c w' HCAP.out.1 HCAP.out.2) ?_; rintro e w7 ⟨rfl, rfl⟩; refine hK.out _ ?_; simpa only [setL, Nat.reduceEqDiff, if_false] using hJ))); (try simp only [Act.put, List.setIfInBounds_toArray, List.set_cons_zero, List.set_cons_succ, Nat.reduceAdd]))
              ((with_reducible refine FlowJ.pure (v := ?_) ?_ ?_ ?_ ?_); rotate_left 1; (focus (intro _; rfl)); (focus (intro β L' w' hJ hat; (try dsimp only at hJ); (try dsimp only); simpa only [setL, Nat.reduceEqDiff, if_false] using hJ)); (focus (intro β L' w' hJ hat; (try dsimp only at hJ); skip; go_simp; (try with_reducible rfl); done)); (try simp only [Act.put, List.setIfInBounds_toArray, List.set_cons_zero, List.set_cons_succ, Nat.reduceAdd]))
              ((with_reducible refine FlowJ.ghost ?_ ?_ ?_); (focus (intro _; rfl)); (focus (intro β L' w' hJ hat K' hK; (try dsimp only at hJ); ((have n6 := hat.not (j := 6) (by kernel_rfl)); (have n10 := hat.not (j := 10) (by kernel_rfl)); have un := hat.un; simp only [un, n6, n10] at hJ; go_simp; refine hK.out _ _ ?_; simp only [updG, setL, Nat.reduceEqDiff, if_true, if_false, n6, n10]; exact ⟨fun _ => (hJ.1 trivial).made, fun e => by cases e⟩))); (try simp only [Act.put, List.setIfInBounds_toArray, List.set_cons_zero, List.set_cons_succ, Nat.reduceAdd]))
              have HA6 := Lib.hid (show IntsN B w6 a fl ∧ B ≤ w6.heap.size from ⟨(HIN.out.chg HCQ.out fun k hk => (HY.out.s k hk).2.1).later HB6.out, by have h1 := HCQ.out.size; have h2 := HB6.out.size; omega⟩)
              ((with_reducible refine FlowJ.ghost ?_ ?_ ?_); (focus (intro _; rfl)); (focus (intro β L' w' hJ hat K' hK; (try dsimp only at hJ); ((have p5 := hat.pre 5 (by kernel_rfl)); (have n10 := hat.not (j := 10) (by kernel_rfl)); have un := hat.un; simp only [un, p5, n10] at hJ; have hJ1 := hJ.1 trivial; obtain ⟨nb, e5, hbx⟩ := hJ1.k5 rfl; obtain ⟨a', c', w2', hr, hi, hc, hb⟩ := clip_app w' B nb a fl (kn : Int) (Nat.le_trans HA6.out.2 hJ1.b.size) (HA6.out.1.later hJ1.b) (by rw [← HLN.out]; omega) hbx; rw [← HLN.out] at hr hc; refine wp_app_eq (.tmp 53) (.tmp 55) 22 rfl (.slice a ln ln) (β 5) rfl rfl (by rw [e5]; exact hr) ?_; refine hK.out _ _ ?_; simp only [updG, setL, Nat.reduceEqDiff, if_true, if_false, n10, p5]; exact ⟨fun _ => hJ1.app hb hi hc, fun e => by cases e⟩))); (try simp only [Act.put, List.setIfInBounds_toArray, List.set_cons_zero, List.set_cons_succ, Nat.reduceAdd]))
              ((with_reducible refine FlowJ.pure (v := ?_) ?_ ?_ ?_ ?_); rotate_left 1; (focus (intro _; rfl)); (focus (intro β L' w' hJ hat; (try dsimp only at hJ); (try dsimp only); simpa only [setL, Nat.reduceEqDiff, if_false] using hJ)); (focus (intro β L' w' hJ hat; (try dsimp only at hJ); skip; go_simp; (try with_reducible rfl); done)); (try simp only [Act.put, List.setIfInBounds_toArray, List.set_cons_zero, List.set_cons_succ, Nat.reduceAdd]))
              ((with_reducible refine FlowJ.pure (v := ?_) ?_ ?_ ?_ ?_); rotate_left 1; (focus (intro _; rfl)); (focus (intro β L' w' hJ hat; (try dsimp only at hJ); (try dsimp only); simpa only [setL, Nat.reduceEqDiff, if_false] using hJ)); (focus (intro β L' w' hJ hat; (try dsimp only at hJ); skip; go_simp; (try with_reducible rfl); done)); (try simp only [Act.put, List.setIfInBounds_toArray, List.set_cons_zero, List.set_cons_succ, Nat.reduceAdd]))
              ((with_reducible refine FlowJ.pure (v := ?_) ?_ ?_ ?_ ?_); rotate_left 1; (focus (intro _; rfl)); (focus (intro β L' w' hJ hat; (try dsimp only at hJ); (try dsimp only); simpa only [setL, Nat.reduceEqDiff, if_false] using hJ)); (focus (intro β L' w' hJ hat; (try dsimp only at hJ); skip; go_simp; (try with_reducible rfl); done)); (try simp only [Act.put, List.setIfInBounds_toArray, List.set_cons_zero, List.set_cons_succ, Nat.reduceAdd]))
              ((with_reducible refine FlowJ.call (v := ?_) ?_ ?_ ?_); rotate_left 1; (focus (intro _; rfl)); (focus (intro β L' w' hJ hat K' hK; (try dsimp only at hJ); ((have p6 := hat.pre 6 (by kernel_rfl)); have un := hat.un; simp only [un, p6] at hJ; have hJ1 := hJ.1 trivial; obtain ⟨a', c', e6, hi6, hc6⟩ := hJ1.k6 rfl; have hcl := HCL.out a' c' w' (HI6.out.later hJ1.b) (HY.out.j _ _ _ HJY.out (Chg.of_below (HB6.out.trans (hJ1.b.mono HB6.out.size)))) hi6 hc6 (Nat.le_trans HA6.out.2 hJ1.b.size); rw [e6]; go_simp; go_at_call 59; refine Calls.mono hcl ?_; rintro e w7 ⟨h1, h2, h3, (⟨rfl, h4⟩ | ⟨m, h4, rfl⟩)⟩; (rw [← e6]; refine hK.out _ ⟨fun e => absurd e (by simp [setL]), fun _ => ⟨h1, h2, (Chg.of_below hJ1.b).trans h3, h4⟩⟩); (have hR2 : R = (ys ++ RZ.1, some m) := (by rw [HRY.out, h4])); refine (show RetFr K S J pre R w (.panicked _) w7 from ⟨h1, ?_, HCQ.out.trans ((Chg.of_below (HB6.out.trans (hJ1.b.mono HB6.out.size))).trans h3), .inr ⟨m, by rw [hR2], rfl⟩⟩); rw [hR2, ← List.append_assoc]; exact h2))); (try simp only [Act.put, List.setIfInBounds_toArray, List.set_cons_zero, List.set_cons_succ, Nat.reduceAdd]))
              ((with_reducible refine FlowJ.pure (v := ?_) ?_ ?_ ?_ ?_); rotate_left 1; (focus (intro _; rfl)); (focus (intro β L' w' hJ hat; (try dsimp only at hJ); (try dsimp only); simpa only [setL, Nat.reduceEqDiff, if_false] using hJ)); (focus (intro β L' w' hJ hat; (try dsimp only at hJ); skip; go_simp; (try with_reducible rfl); done)); (try simp only [Act.put, List.setIfInBounds_toArray, List.set_cons_zero, List.set_cons_succ, Nat.reduceAdd]))
              refine PF.FlowJ.stop ?_
              dsimp only
              intro β9 w9 hJ
              obtain ⟨hI9, hJ9, hC9, hz9⟩ := hJ.2 trivial
              have hC99 : Chg S wq w9 := (Chg.of_below HB6.out).trans hC9
              have wv : IntKind.i64.wrap ((kn : Int) + 1) = (kn : Int) + 1 := IntWalk.i64_in _ (by have := HV.out; omega)
              have HR9 := Lib.hid (show FrL K S J pre (fnG K.g K.plan k s fl lo) (((vsG n).drop (i + 1)).filter (mvOk s)) R s w.heap.size w w9 from by
                refine ⟨hI9, ?_, HCQ.out.trans hC99, ys ++ RZ.1, by rw [← List.append_assoc]; exact hJ9, ?_⟩
                · have h := HXQ.out
                  rw [HC.out] at h
                  exact h.chg hC99 (fun e => by have h1 := (HY.out.s _ e).2.1; omega) h.lt
                · rw [HRY.out, hz9, List.append_assoc])
              clear hJ hI9 hJ9 hC9 hz9 hC99 f0 lF lX wlo
              go_wp2_with fail
              go_roundg (n + 1 - i)
              case measure => have := HLT.out; omega
              case rel => exact ⟨i + 1, HLT.out, by have := HLT.out; omega, by have := HV.out; congr 1; omega, HR9.out⟩
    · obtain rfl : i = n + 1 := by omega
      have g1 : decide (v < (n : Int)) = false := decide_eq_false (by omega)
      have HV := Lib.hid hv
      clear hv hlt
      go_wp2_with fail
      refine bodyPost_ret (results_tmp rfl _ _ _) rfl ?_
      obtain ⟨ys, hj, hR⟩ := HJQ.out
      have hd : (vsG n).drop (n + 1) = [] := List.drop_eq_nil_of_le (by simp [vsG])
      rw [hd] at hR
      have hR2 : R = (ys, none) := by rw [hR]; simp [seqG]
      exact ⟨HIQ.out, by rw [hR2]; exact hj, HCQ.out, .inl ⟨rfl, by rw [hR2]⟩⟩
end Go.Proofs.Ytgccankekflchaa.PF
namespace Go.Proofs.Ytgccankekflchaa.PF
open Go.RowKit Go.Maps Go.Shelf

theorem from_any (K : GaK) (hK : GaD K) (B n0 : Nat) (xs : List (List Int × Int)) (S : Nat → Prop) (J : List (List Int × Int) → World → Prop) (hY : GaY K B n0 xs S J) : ∀ k, FromC K B n0 xs S J k
  | 0 => from_end K B n0 xs S J hY
  | k + 1 => from_on K hK B n0 xs S J hY k (from_any K hK B n0 xs S J hY k)
set_option maxRecDepth 100000 in
set_option maxHeartbeats 4000000 in
theorem games_seq (n : Nat) (g : Gm) (sa da : Option Addr) (sc dc : Nat) (plan : List Pos) (M mn PB : Nat) (wB w : World) (S : Nat → Prop) (hG : GmAt wB g sa da) (hv : VG g) (hb : Below wB.heap.size wB w)
    (hPB : wB.heap.size ≤ PB) (hMB : wB.heap.size ≤ M) (hp : BoxAt w PB (bdC g sa sc da dc M)) (hm : MapIs Try.prog 92 w M mn (choF plan)) (hS : ∀ k, S k → wB.heap.size ≤ k ∧ k ≠ PB ∧ k ≠ M) :
    SeqP n Try.prog 58 #[.pointer (some ⟨PB, 0, none⟩)] (gamesL g plan g.deps.length (beginS g) [] 0).1 (gamesL g plan g.deps.length (beginS g) [] 0).2 S w := by
  intro l J W hbW hSW hJs hYd hJ0
  obtain ⟨R, hR⟩ : ∃ R, R = gamesL g plan g.deps.length (beginS g) [] 0 := ⟨_, rfl⟩
  rw [← hR] at hYd ⊢
  refine callsIn_wide.2 ?_
  let K : GaK := { g, sa, sc, da, dc, plan, M, mn, PB, YB := W.heap.size, FB := W.heap.size + 1, l, w0 := wB }
  have hWs : wB.heap.size ≤ W.heap.size := Nat.le_trans hb.size hbW.size
  have hKD : GaD K := ⟨hv, hG, ⟨hPB, hWs, Nat.le_succ_of_le hWs, hMB⟩⟩
  have hY : GaY K W.heap.size (n - 1) R.1 S J := ⟨fun k hk => ⟨(hS k hk).1, hSW k hk, (hS k hk).2.1, by show k ≠ W.heap.size; have := hSW k hk; omega, by show k ≠ W.heap.size + 1; have := hSW k hk; omega, (hS k hk).2.2⟩, hJs, hYd⟩
  have hfr := from_any K hKD W.heap.size (n - 1) R.1 S J hY g.deps.length (beginS g) [] 0 none 0 []
  have hbg := fun wy (hy : Below W.heap.size W wy) => begin_any g sa da sc dc M wy (hG.later (hb.trans ((hbW.mono hb.size).trans (hy.mono hWs)))) hv
  have hd12 := hv.2.1
  have hcl := fun (wy : World) (hi : GaI K wy) (hj : J [] wy) (hB : W.heap.size ≤ wy.heap.size) => hfr wy hi hj (fun j h => absurd h (Nat.not_lt_zero j)) (Nat.le_refl _) (by show 0 + g.deps.length ≤ 100; omega) (Int.le_refl _) (by show (0 : Int) + g.deps.length ≤ 100; omega) (Dom.begin hv) (by show (0 : Int) + g.deps.length = g.deps.length; omega) (by show ([] : List (List Int × Int)) ++ (gamesL g plan g.deps.length (beginS g) [] 0).1 <+: R.1; rw [← hR, List.nil_append]; exact List.prefix_refl _) hB
  have hcl2 : ∀ (wy : World), GaI K wy → J [] wy → W.heap.size ≤ wy.heap.size → Calls Try.prog 59 #[pyV (beginS g), .slice none 0 0, .int .i64 0, .pointer (some ⟨PB, 0, none⟩), .pointer (some ⟨W.heap.size, 0, none⟩), .pointer (some ⟨W.heap.size + 1, 0, none⟩)] wy (RetFr K S J [] R wy) := fun wy a b c => by rw [hR]; exact hcl wy a b c
  have hgi : ∀ w3, Below W.heap.size W w3 → BoxAt w3 W.heap.size [.func (.yield l) #[] #[]] → BoxAt w3 (W.heap.size + 1) [frV K] → GaI K w3 := fun w3 h1 h2 h3 =>
    ⟨hb.trans ((hbW.trans (h1.mono hbW.size)).mono hb.size), (hp.later hbW).later h1, h2, h3, (hm.later hbW).later h1⟩
  have hp3 : ∀ w3, Below W.heap.size W w3 → BoxAt w3 PB (bdC g sa sc da dc M) := fun w3 h1 => (hp.later hbW).later h1
  obtain ⟨vn, hvn⟩ : ∃ n, n = g.starts.length := ⟨_, rfl⟩
  obtain ⟨vd, hvd⟩ : ∃ n, n = g.deps.length := ⟨_, rfl⟩
  obtain ⟨vb, hvb⟩ : ∃ n, n = g.budget := ⟨_, rfl⟩
  obtain ⟨C, hC⟩ : ∃ C, C = pyC (beginS g) := ⟨_, rfl⟩
  simp only [bdV, bdC, pyV, ← hvn, ← hvd, ← hvb, ← hC] at hbg hcl2 hp3
  have HBG := Lib.hid hbg
  have HCL := Lib.hid hcl2
  have HGI := Lib.hid hgi
  have HP3 := Lib.hid hp3
  have HJS := Lib.hid hJs
  have HJ0 := Lib.hid hJ0
  have lPB : PB < W.heap.size := Nat.lt_of_lt_of_le hp.lt hbW.size
  show Calls Try.prog 58 #[.func (.yield l) #[] #[], .pointer (some ⟨PB, 0, none⟩)] W _
  clear hbg hcl hcl2 hgi hp3 hfr hY hKD hG hb hbW hSW hJs hYd hJ0 hp hm hS hd12 hvn hvd hvb hC hR
  go_enter Try.func58, Try.ntmps58
  go_upto_region 2 with fail
  refine wp_named ?_
  intro w2 hw2
  obtain ⟨hb2, hs2, ⟨hy2, _⟩, hf2, _⟩ := alloc2t W [.func (.yield l) #[] #[]] [Value.nilFunc] _ _ w2 hw2
  obtain ⟨z0, z0f⟩ := hf2 0 _ rfl
  have HB2 := Lib.hid hb2
  have HY2 := Lib.hid hy2
  have HF2 := Lib.hid hf2
  clear hw2 hb2 hs2 hy2 hf2
  go_upto_region 3 with fail
  refine wp_named ?_
  intro w3 hw3
  have hb3 : Below W.heap.size W w3 := by rw [hw3]; exact HB2.out.setCell (p := ⟨W.heap.size + 1, 0, none⟩) (show W.heap.size ≤ W.heap.size + 1 by omega) _
  have hf3 : BoxAt w3 (W.heap.size + 1) [frV K] := by rw [hw3]; exact HF2.out.put 0 _ (by simp)
  have hc3 : Chg (fun k => k = W.heap.size + 1) w2 w3 := by rw [hw3]; exact Chg.setCell (S := fun k => k = W.heap.size + 1) (Chg.refl _ _) (p := ⟨W.heap.size + 1, 0, none⟩) (fun _ => rfl) _
  have hy3 : BoxAt w3 W.heap.size [.func (.yield l) #[] #[]] := HY2.out.chg hc3 (by omega) HY2.out.lt
  have hp3 := HP3.out w3 hb3
  have f0 : w3.cell? ⟨W.heap.size + 1, 0, none⟩ = some (.func (.func 59) #[] #[.pointer (some ⟨PB, 0, none⟩), .pointer (some ⟨W.heap.size, 0, none⟩), .pointer (some ⟨W.heap.size + 1, 0, none⟩)]) := (hf3 0 _ rfl).1
  have lF := hf3.lt
  have p0 := (hp3 0 _ rfl).1
  have p1 := (hp3 1 _ rfl).1
  have p2 := (hp3 2 _ rfl).1
  have p3 := (hp3 3 _ rfl).1
  have lP := hp3.lt
  have HB3 := Lib.hid hb3
  have HI3 := Lib.hid (HGI.out w3 hb3 hy3 hf3)
  clear hw3 hb3 hf3 hc3 hy3 hp3 z0 z0f
  refine wp_flow_j (PN := fun ch w' => (∃ m, R.2 = some m ∧ ch = [{ v := .iface 29 (.int .i64 m), recovered := false }] ∧ J R.1 w')) (fun β L' w' => (L' 3 = false → Below w3.heap.size w3 w') ∧ (L' 3 = true → J R.1 w' ∧ R.2 = none)) (fun ch a2 w2 hd hp => ⟨hd, .inr (by obtain ⟨m, h1, h2, h3⟩ := hp; exact ⟨m, h1, by rw [h2], h3⟩)⟩) (by kernel_rfl) (by kernel_rfl) ?h9 ?_
  case h9 => exact ⟨fun _ => (Below.refl _ _).drew, fun e => by cases e⟩
  ((with_reducible refine FlowJ.pure (v := ?_) ?_ ?_ ?_ ?_); rotate_left 1; (focus (intro _; rfl)); (focus (intro β L' w' hJ hat; (try dsimp only at hJ); (try dsimp only); simpa only [setL, Nat.reduceEqDiff, if_false] using hJ)); (focus (intro β L' w' hJ hat; (try dsimp only at hJ); ((have n3 := hat.not (j := 3) (by kernel_rfl)); have hb := hJ.1 n3; have f1 := cell_later hb f0); go_simp; (try with_reducible rfl); done)); (try simp only [Act.put, List.setIfInBounds_toArray, List.set_cons_zero, List.set_cons_succ, Nat.reduceAdd]))
  ((with_reducible refine FlowJ.pure (v := ?_) ?_ ?_ ?_ ?_); rotate_left 1; (focus (intro _; rfl)); (focus (intro β L' w' hJ hat; (try dsimp only at hJ); (try dsimp only); simpa only [setL, Nat.reduceEqDiff, if_false] using hJ)); (focus (intro β L' w' hJ hat; (try dsimp only at hJ); ((have n3 := hat.not (j := 3) (by kernel_rfl)); have hb := hJ.1 n3; have q0 := cell_later hb p0; have q1 := cell_later hb p1; have q2 := cell_later hb p2; have q3 := cell_later hb p3); go_simp; (try with_reducible rfl); done)); (try simp only [Act.put, List.setIfInBounds_toArray, List.set_cons_zero, List.set_cons_succ, Nat.reduceAdd]))
  ((with_reducible refine FlowJ.call (v := ?_) ?_ ?_ ?_); rotate_left 1; (focus (intro _; rfl)); (focus (intro β L' w' hJ hat K' hK; (try dsimp only at hJ); ((have n3 := hat.not (j := 3) (by kernel_rfl)); have hb := hJ.1 n3; go_simp; go_at_call 41; refine Calls.mono (HBG.out w' (HB3.out.trans (hb.mono HB3.out.size))) ?_; rintro e w7 ⟨rfl, hb7⟩; refine hK.out _ ?_; simp only [setL, Nat.reduceEqDiff, if_false, n3]; exact ⟨fun _ => hb.trans (hb7.mono hb.size), fun e => by cases e⟩))); (try simp only [Act.put, List.setIfInBounds_toArray, List.set_cons_zero, List.set_cons_succ, Nat.reduceAdd]))
  ((with_reducible refine FlowJ.call (v := ?_) ?_ ?_ ?_); rotate_left 1; (focus (intro _; rfl)); (focus (intro β L' w' hJ hat K' hK; (try dsimp only at hJ); (have un := hat.un; have hb := hJ.1 un; have hbw := HB3.out.trans (hb.mono HB3.out.size); have hcl := HCL.out w' (HI3.out.later hb) (HJS.out _ _ _ HJ0.out (Chg.of_below hbw)) hbw.size; go_simp; go_at_call 59; refine Calls.mono hcl ?_; rintro e w7 ⟨h1, h2, h3, (⟨rfl, h4⟩ | ⟨m, h4, rfl⟩)⟩; (refine hK.out _ ⟨fun e => absurd e (by simp [setL]), fun _ => ⟨h2, h4⟩⟩); exact ⟨m, h4, rfl, h2⟩))); (try simp only [Act.put, List.setIfInBounds_toArray, List.set_cons_zero, List.set_cons_succ, Nat.reduceAdd]))
  refine FlowJ.stop ?_
  dsimp only
  intro β9 w9 hJ9
  obtain ⟨hj9, hr9⟩ := hJ9.2 trivial
  have HJ9 := Lib.hid (And.intro hj9 hr9)
  clear hJ9 hj9 hr9
  go_wp2_with fail
  exact ⟨rfl, _, results_none rfl _ _ _, .inl ⟨_, rfl, HJ9.out.2, HJ9.out.1⟩⟩
end Go.Proofs.Ytgccankekflchaa.PF
namespace Go.Proofs.Ytgccankekflchaa
open Go.RowKit Go.Maps
set_option maxRecDepth 100000 in
theorem stuckI_pan (k : Nat) (p : Addr) (x : Int) (n : Int) (older : List PanicEntry) (w : World) (hc : w.cell? p = some (.int .i64 x)) (hz : w.frozen? p = false) :
    CallsDIn Fence.wide k Try.prog 39 #[.pointer (some p)] (.panicking ({ v := .iface 29 (.int .i64 n), recovered := false } :: older)) w fun e u' w' =>
      e = .returned (.tuple #[]) ∧ u' = .panicking ({ v := .iface 29 (.int .i64 n), recovered := true } :: older) ∧ w' = w.setCell p (.int .i64 n) := by
  refine callsDIn_of_wpSIn Try.func39 rfl trivial fun c₀ cs hu => ?_
  simp only [show Try.f39.ntmps = 14 from by kernel_rfl]
  simp only [List.size_toArray, List.length_cons, List.length_nil, Nat.reduceAdd, Nat.reduceSub, Array.replicate_succ, Array.replicate_zero, List.push_toArray, List.append_toArray, List.nil_append, List.cons_append]
  apply wpSIn_seq
  apply wpSIn_region
  simp [wpOpsSIn, go_sem, recoverD, hu, Exit.thenS]
  refine wpSIn_of_wpIn rfl (wpIn_wide.2 ?_)
  have hta : ∀ w, (Instr.typeAssert (.iface 29 (.int .i64 n)) 20 29 true).run Try.prog w = .ok (.tuple #[.int .i64 n, .bool true]) w := fun w => by rfl
  go_wp2_with fail
  exact ⟨rfl, _, rfl, _, by simp [results, Try.f39, go_sem], rfl, rfl, rfl⟩
theorem stuckI_ret (k : Nat) (p : Addr) (w : World) :
    CallsDIn Fence.wide k Try.prog 39 #[.pointer (some p)] .returning w fun e u' w' => e = .returned (.tuple #[]) ∧ u' = .returning ∧ w' = w := by
  refine callsDIn_of_wpSIn Try.func39 rfl trivial fun c₀ cs hu => ?_
  simp only [show Try.f39.ntmps = 14 from by kernel_rfl]
  simp only [List.size_toArray, List.length_cons, List.length_nil, Nat.reduceAdd, Nat.reduceSub, Array.replicate_succ, Array.replicate_zero, List.push_toArray, List.append_toArray, List.nil_append, List.cons_append]
  apply wpSIn_seq
  apply wpSIn_region
  simp [wpOpsSIn, go_sem, recoverD, hu, Exit.thenS]
  refine wpSIn_of_wpIn rfl (wpIn_wide.2 ?_)
  go_wp2_with fail
  refine ⟨rfl, .returning, ?_, _, by simp [results, Try.f39, go_sem], rfl, rfl, rfl⟩
  cases c₀
  simp_all
set_option maxRecDepth 100000 in
theorem worst1_err (k : Nat) (pe pw pm : Addr) (n x : Int) (v : Value) (u : FrameMode) (w : World) (he : w.cell? pe = some (.int .i64 n)) (hn : n ≠ 0) (hw : w.cell? pw = some v) (hwz : w.frozen? pw = false) (hc : w.cell? pm = some (.int .i64 x)) (hz : w.frozen? pm = false) (hne : pw ≠ pm) :
    CallsDIn Fence.wide k Try.prog 43 #[.pointer (some pe), .pointer (some pw), .pointer (some pm)] u w fun e u' w' => u' = u ∧ (e = .returned (.tuple #[]) ∧ w' = (w.setCell pw (.slice none 0 0)).setCell pm (.int .i64 0)) := by
  have h1 : (n == (0 : Int)) = false := by simpa using hn
  have hc2 : (w.setCell pw (.slice none 0 0)).cell? pm = some (.int .i64 x) := by rw [World.cell?_setCell_other _ _ _ _ hne]; exact hc
  have hz2 : (w.setCell pw (.slice none 0 0)).frozen? pm = false := by rw [World.frozen?_setCell]; exact hz
  refine callsDIn_of_wp Try.func43 rfl trivial (wpIn_wide.2 ?_)
  simp only [Try.ntmps43, List.size_toArray, List.length_cons, List.length_nil, Nat.reduceAdd, Nat.reduceSub, Array.replicate_succ, Array.replicate_zero, List.push_toArray, List.append_toArray, List.nil_append, List.cons_append]
  go_wp2_with fail
  exact ⟨rfl, _, results_none rfl _ _ _, rfl, rfl⟩
set_option maxRecDepth 100000 in
theorem worst1_ok (k : Nat) (pe pw pm : Addr) (u : FrameMode) (w : World) (he : w.cell? pe = some (.int .i64 0)) :
    CallsDIn Fence.wide k Try.prog 43 #[.pointer (some pe), .pointer (some pw), .pointer (some pm)] u w fun e u' w' => u' = u ∧ (e = .returned (.tuple #[]) ∧ w' = w) := by
  refine callsDIn_of_wp Try.func43 rfl trivial (wpIn_wide.2 ?_)
  simp only [Try.ntmps43, List.size_toArray, List.length_cons, List.length_nil, Nat.reduceAdd, Nat.reduceSub, Array.replicate_succ, Array.replicate_zero, List.push_toArray, List.append_toArray, List.nil_append, List.cons_append]
  go_wp2_with fail
  exact ⟨rfl, _, results_none rfl _ _ _, rfl, rfl⟩
def RetGs (g : Gm) (sa : Option Addr) (sc : Nat) (da : Option Addr) (dc M : Nat) (w : World) (e : Ending) (w' : World) : Prop :=
  ∃ PB, e = .returned (.func (.func 58) #[] #[.pointer (some ⟨PB, 0, none⟩)]) ∧ w.heap.size ≤ PB ∧ BoxAt w' PB (bdC g sa sc da dc M) ∧ Below w.heap.size w w'
set_option maxRecDepth 100000 in
theorem games_any (g : Gm) (sa da : Option Addr) (sc dc M : Nat) (w : World) : Calls Try.prog 44 #[bdV g sa sc da dc M] w (RetGs g sa sc da dc M w) := by
  have hmf : ∀ (fn : Fn) (first cap : Array Value) (w : World), (Instr.makeFunc fn first cap).run Try.prog w = .ok (.func fn first cap) w := fun _ _ _ _ => rfl
  unfold bdV RetGs bdC
  go_enter Try.func44, Try.ntmps44
  go_wp2_with fail
  go_ret
  exact ⟨w.heap.size, rfl, Nat.le_refl _, BoxAt.new w [.slice sa g.starts.length sc, .slice da g.deps.length dc, .int .i64 g.budget, .map (some M)] _, (Below.refl _ _).alloc (Nat.le_refl _) _⟩
end Go.Proofs.Ytgccankekflchaa
namespace Go.Proofs.Ytgccankekflchaa
open Go.RowKit Go.Maps

/-! ### plain -/
def wStep (m x : List Int × Int) : List Int × Int := if m.2 < x.2 then x else m
/-- the first of the greatest -/
def worstF (xs : List (List Int × Int)) : List Int × Int := xs.foldl wStep ([], -1)
def gamesG (g : Gm) (plan : List Pos) : List (List Int × Int) × Option Int := gamesL g plan g.deps.length (beginS g) [] 0
noncomputable def worstV (g : Gm) (plan : List Pos) : List Int × Int × Int := open Classical in
  if VG g then (match (gamesG g plan).2 with
    | none => ((worstF (gamesG g plan).1).1, (worstF (gamesG g plan).1).2, 0)
    | some e => ([], 0, e)) else ([], 0, 1)
theorem worstF_snoc (pre : List (List Int × Int)) (x : List Int × Int) : worstF (pre ++ [x]) = wStep (worstF pre) x := by unfold worstF; rw [List.foldl_append]; rfl
def RetWo (g : Gm) (plan : List Pos) (w : World) (e : Ending) (w' : World) : Prop :=
  ∃ a c, e = .returned (.tuple #[.slice a (worstV g plan).1.length c, .int .i64 (worstV g plan).2.1, .int .i64 (worstV g plan).2.2]) ∧ IntsN w.heap.size w' a (worstV g plan).1 ∧ Below w.heap.size w w'
theorem seqG_err {f : Int → List (List Int × Int) × Option Int} : ∀ {vs : List Int} {e : Int}, (seqG f vs).2 = some e → ∃ v, (f v).2 = some e
  | [], e, h => by cases h
  | v :: vs, e, h => by
    rw [seqG_cons] at h
    cases hf : (f v).2 with
    | some e' => rw [hf] at h; exact ⟨v, by rw [hf]; exact h⟩
    | none => rw [hf] at h; exact seqG_err h
theorem gamesL_err {g : Gm} {plan : List Pos} : ∀ {k : Nat} {s : St} {fl : List Int} {lo e : Int}, (gamesL g plan k s fl lo).2 = some e → e = 2 ∨ e = 5
  | 0, s, fl, lo, e, h => by cases h
  | k + 1, s, fl, lo, e, h => by
    rw [gamesL_succ] at h
    obtain ⟨v, hv⟩ := seqG_err h
    unfold fnG at hv
    cases ht : turnR g plan s v with
    | error m => rw [ht] at hv; cases hv; exact turnR_err ht
    | ok y => rw [ht] at hv; exact gamesL_err hv
theorem gamesG_err {g : Gm} {plan : List Pos} {e : Int} (h : (gamesG g plan).2 = some e) : e ≠ 0 := by
  rcases gamesL_err h with rfl | rfl <;> decide
end Go.Proofs.Ytgccankekflchaa
namespace Go.Proofs.Ytgccankekflchaa
open Go.RowKit Go.Maps Go.Shelf
attribute [local go_sem] Oper.semAt_some

/-! ### in memory -/
structure WsI (w : World) (H : Nat) (pre : List (List Int × Int)) (W : World) : Prop where
  b : Below w.heap.size w W
  m : BoxAt W (w.heap.size + 1 + 1) [.int .i64 (worstF pre).2]
  e : BoxAt W (w.heap.size + 1 + 1 + 1) [.int .i64 0]
  l : ∃ a c, BoxAt W (w.heap.size + 1) [.slice a (worstF pre).1.length c] ∧ IntsN (H + 1 + 1) W a (worstF pre).1
theorem WsI.keep {w A B : World} {H : Nat} {pre : List (List Int × Int)} (h : WsI w H pre A) (hH : w.heap.size + 1 + 1 + 1 < H) (hc : Chg (fun k => k = H ∨ k = H + 1) A B) : WsI w H pre B := by
  obtain ⟨a, c, h1, h2⟩ := h.l
  exact ⟨h.b.trans (hc.below h.b.size fun k hk => by omega), h.m.chg hc (by omega) h.m.lt, h.e.chg hc (by omega) h.e.lt, a, c, h1.chg hc (by omega) h1.lt, h2.chg hc fun k hk => by omega⟩
theorem alloc4 (w : World) (a b d e : List Value) (ta tb td te : TypeId) (w1 : World) (h : w1 = (((w.alloc (.cells a.toArray ta)).alloc (.cells b.toArray tb)).alloc (.cells d.toArray td)).alloc (.cells e.toArray te)) :
    Below w.heap.size w w1 ∧ w1.heap.size = w.heap.size + 1 + 1 + 1 + 1 ∧ BoxAt w1 w.heap.size a ∧ BoxAt w1 (w.heap.size + 1) b ∧ BoxAt w1 (w.heap.size + 1 + 1) d ∧ BoxAt w1 (w.heap.size + 1 + 1 + 1) e := by
  obtain ⟨x, hx⟩ : ∃ x, x = ((w.alloc (.cells a.toArray ta)).alloc (.cells b.toArray tb)).alloc (.cells d.toArray td) := ⟨_, rfl⟩
  rw [← hx] at h
  obtain ⟨p1, p2, p3, p4, p5⟩ := alloc3P w a b d ta tb td x hx
  obtain ⟨q1, q2, q3, _⟩ := alloc1 x e te w1 h
  rw [p2] at q2 q3
  exact ⟨p1.trans (q1.mono (by omega)), q2, p3.later q1, p4.later q1, p5.later q1, q3⟩
theorem set3 (W : World) (b : Nat) (x y z x' y' z' : Value) (h1 : W.cell? ⟨b + 1, 0, none⟩ = some x) (h2 : W.cell? ⟨b + 1 + 1, 0, none⟩ = some y) (h3 : W.cell? ⟨b + 1 + 1 + 1, 0, none⟩ = some z) (W9 : World)
    (e : W9 = ((W.setCell ⟨b + 1, 0, none⟩ x').setCell ⟨b + 1 + 1, 0, none⟩ y').setCell ⟨b + 1 + 1 + 1, 0, none⟩ z') (w : World) (hb : Below b w W) :
    W9.cell? ⟨b + 1, 0, none⟩ = some x' ∧ W9.cell? ⟨b + 1 + 1, 0, none⟩ = some y' ∧ W9.cell? ⟨b + 1 + 1 + 1, 0, none⟩ = some z' ∧ Below b w W9 := by
  have n1 : (⟨b + 1 + 1, 0, none⟩ : Addr) ≠ ⟨b + 1, 0, none⟩ := by simp
  have n2 : (⟨b + 1 + 1 + 1, 0, none⟩ : Addr) ≠ ⟨b + 1, 0, none⟩ := by simp
  have n3 : (⟨b + 1 + 1 + 1, 0, none⟩ : Addr) ≠ ⟨b + 1 + 1, 0, none⟩ := by simp
  have e1 : (W.setCell ⟨b + 1, 0, none⟩ x').cell? ⟨b + 1 + 1, 0, none⟩ = some y := by rw [World.cell?_setCell_other _ _ _ _ n1.symm]; exact h2
  have e2 : (W.setCell ⟨b + 1, 0, none⟩ x').cell? ⟨b + 1 + 1 + 1, 0, none⟩ = some z := by rw [World.cell?_setCell_other _ _ _ _ n2.symm]; exact h3
  refine ⟨?_, ?_, ?_, ?_⟩
  · rw [e, World.cell?_setCell_other _ _ _ _ n2, World.cell?_setCell_other _ _ _ _ n1]
    exact World.cell?_setCell_same _ _ _ h1
  · rw [e, World.cell?_setCell_other _ _ _ _ n3]
    exact World.cell?_setCell_same _ _ _ e1
  · rw [e]
    exact World.cell?_setCell_same _ _ _ (by rw [World.cell?_setCell_other _ _ _ _ n3.symm]; exact e2)
  · rw [e]
    exact ((hb.setCell (p := ⟨b + 1, 0, none⟩) (show b ≤ b + 1 by omega) _).setCell (p := ⟨b + 1 + 1, 0, none⟩) (show b ≤ b + 1 + 1 by omega) _).setCell (p := ⟨b + 1 + 1 + 1, 0, none⟩) (show b ≤ b + 1 + 1 + 1 by omega) _
theorem leavesM_mark {n : Nat} {P : Program} {fn : Func} {ts : Array Value} {R : Ending → World → Prop} {D : Nat} {ds : List Deferred} {u : FrameMode} {w : World} (hu : u ≠ .run) (hd : w.heap[D]? = some (.deferred (some []))) (h : LeavesInM Fence.wide n P fn ts R ds u (w.putObj D (.deferred none))) :
    LeavesInM Fence.wide n P fn ts R ({ target := .collected D, args := #[] } :: ds) u w := ⟨hu, .inl ⟨_, _, rfl, run_takeDeferred hd, h⟩⟩
theorem leavesM_cons {n : Nat} {P : Program} {fn : Func} {tmps : Array Value} {R : Ending → World → Prop} {fv : Fn} {cap dargs : Array Value} {ds : List Deferred} {u : FrameMode} {w : World} {f : FuncId} {args : Array Value} (hu : u ≠ .run) (hi : (invoke (.fn fv cap) dargs).run P w = .ok (.enter f args) w)
    (h : CallsDIn Fence.wide (n - 1) P f args u w fun
      | .returned _, u', w' => LeavesInM Fence.wide n P fn tmps R ds (settle u') w'
      | .panicked chain, u', w' => LeavesInM Fence.wide n P fn tmps R ds (raised u' chain) w'
      | .outgrown, _, w' => R .outgrown w') : LeavesInM Fence.wide n P fn tmps R ({ target := .fn fv cap, args := dargs } :: ds) u w :=
  ⟨hu, .inr ⟨fun h => by simp [Fence.wide] at h, fv, cap, f, args, rfl, hi, fun _ _ => trivial, h⟩⟩
structure DoJ (W0 : World) (b : Nat) (v1 v2 v3 : Value) (W : World) : Prop where
  l : BoxAt W (b + 1) [v1]
  m : BoxAt W (b + 1 + 1) [v2]
  e : BoxAt W (b + 1 + 1 + 1) [v3]
  ch : Chg (fun k => k = b + 1 ∨ k = b + 1 + 1 ∨ k = b + 1 + 1 + 1) W0 W
section
variable {W0 W : World} {b : Nat} {v1 v2 v3 : Value}
theorem DoJ.set1 (h : DoJ W0 b v1 v2 v3 W) : DoJ W0 b v1 v2 v3 (W.setCell ⟨b + 1, 0, none⟩ v1) := by
  have hc : Chg (fun k => k = b + 1) W (W.setCell ⟨b + 1, 0, none⟩ v1) := Chg.setCell (S := fun k => k = b + 1) (Chg.refl _ _) (p := ⟨b + 1, 0, none⟩) (fun _ => rfl) _
  exact ⟨h.l.put 0 _ (by simp), h.m.chg hc (by omega) h.m.lt, h.e.chg hc (by omega) h.e.lt, h.ch.trans (hc.mono fun _ _ h => .inl h)⟩
theorem DoJ.set2 (h : DoJ W0 b v1 v2 v3 W) : DoJ W0 b v1 v2 v3 (W.setCell ⟨b + 1 + 1, 0, none⟩ v2) := by
  have hc : Chg (fun k => k = b + 1 + 1) W (W.setCell ⟨b + 1 + 1, 0, none⟩ v2) := Chg.setCell (S := fun k => k = b + 1 + 1) (Chg.refl _ _) (p := ⟨b + 1 + 1, 0, none⟩) (fun _ => rfl) _
  exact ⟨h.l.chg hc (by omega) h.l.lt, h.m.put 0 _ (by simp), h.e.chg hc (by omega) h.e.lt, h.ch.trans (hc.mono fun _ _ h => .inr (.inl h))⟩
theorem DoJ.set3 (h : DoJ W0 b v1 v2 v3 W) : DoJ W0 b v1 v2 v3 (W.setCell ⟨b + 1 + 1 + 1, 0, none⟩ v3) := by
  have hc : Chg (fun k => k = b + 1 + 1 + 1) W (W.setCell ⟨b + 1 + 1 + 1, 0, none⟩ v3) := Chg.setCell (S := fun k => k = b + 1 + 1 + 1) (Chg.refl _ _) (p := ⟨b + 1 + 1 + 1, 0, none⟩) (fun _ => rfl) _
  exact ⟨h.l.chg hc (by omega) h.l.lt, h.m.chg hc (by omega) h.m.lt, h.e.put 0 _ (by simp), h.ch.trans (hc.mono fun _ _ h => .inr (.inr h))⟩
end
set_option maxRecDepth 100000 in
set_option maxHeartbeats 8000000 in
theorem worst_any (g : Gm) (sa da : Option Addr) (sc dc : Nat) (l : List PA) (a : Option Addr) (c : Nat) (w : World) (hG : GmAt w g sa da) (hfw : GmFew g) (hL : LaP w a l) (hI : InP l) (hll : l.length ≤ 1000000000) :
    Calls Try.prog 11 #[gmV g sa sc da dc, .slice a l.length c] w (RetWo g (l.map (·.1)) w) := by
  have hvl := fun wy (hy : Below w.heap.size w wy) => valid_anyG g sa da sc dc wy (hG.later hy) hfw
  have hnp := fun wy (hy : Below w.heap.size w wy) => newp_any g sa da sc dc l a c wy (hL.later hy) hI hll
  have HG := Lib.hid hG
  obtain ⟨n, hn⟩ : ∃ n, n = g.starts.length := ⟨_, rfl⟩
  obtain ⟨nd, hnd⟩ : ∃ n, n = g.deps.length := ⟨_, rfl⟩
  obtain ⟨bu, hbu⟩ : ∃ n, n = g.budget := ⟨_, rfl⟩
  obtain ⟨ll, hll2⟩ : ∃ n, n = l.length := ⟨_, rfl⟩
  simp only [gmV, ← hn, ← hnd, ← hbu, ← hll2] at hvl hnp ⊢
  have HN := Lib.hid (And.intro hn (And.intro hnd hbu))
  have HVL := Lib.hid hvl
  have HNP := Lib.hid hnp
  clear hG hL hI hll hn hnd hbu hll2 hvl hnp hfw
  refine (callsIn_wide (n := 3)).1 ?_
  refine callsIn_of_wp_marks Try.func11 rfl trivial ?_ rfl
  simp only [Try.ntmps11, List.size_toArray, List.length_cons, List.length_nil, Nat.reduceAdd, Nat.reduceSub, Array.replicate_succ, Array.replicate_zero, List.push_toArray, List.append_toArray, List.nil_append, List.cons_append]
  refine (wpIn_wide (n := 3)).2 ?_
  go_upto_region 1 with fail
  refine wp_named ?_
  intro w1 hw1
  obtain ⟨hb1, hs1, hg1, hl1, hm1, he1⟩ := alloc4 w [.slice sa n sc, .slice da nd dc, .int .i64 bu] [.slice none 0 0] [.int .i64 0] [.int .i64 0] _ _ _ _ w1 hw1
  have HB1 := Lib.hid hb1
  have HG1 := Lib.hid hg1
  have HL1 := Lib.hid hl1
  have HM1 := Lib.hid hm1
  have HE1 := Lib.hid he1
  have c0 := (hg1 0 _ rfl).1
  have c1 := (hg1 1 _ rfl).1
  have c2 := (hg1 2 _ rfl).1
  clear hw1 hb1 hs1 hg1 hl1 hm1 he1
  go_wp2_with fail
  refine Calls.mono (HVL.out w1 HB1.out) ?_
  rintro e w2 ⟨rfl, hb2⟩
  have HB2 := Lib.hid (HB1.out.trans (hb2.mono HB1.out.size))
  have HG2 := Lib.hid (HG1.out.later hb2)
  have HL2 := Lib.hid (HL1.out.later hb2)
  have HM2 := Lib.hid (HM1.out.later hb2)
  have HE2 := Lib.hid (HE1.out.later hb2)
  have c0 := (HG2.out 0 _ rfl).1
  have c1 := (HG2.out 1 _ rfl).1
  have c2 := (HG2.out 2 _ rfl).1
  obtain ⟨l0, l0f⟩ := HL2.out 0 _ rfl
  obtain ⟨m0, m0f⟩ := HM2.out 0 _ rfl
  obtain ⟨e0, e0f⟩ := HE2.out 0 _ rfl
  clear hb2
  rcases Classical.em (¬ VG g) with hv | hv
  · have HO := Lib.hid (show worstV g (l.map (·.1)) = ([], 0, 1) from if_neg hv)
    rw [vgB_false hv]
    clear hv
    go_wp2_with fail
    obtain ⟨W9, hW9⟩ : ∃ W9, W9 = ((w2.setCell ⟨w.heap.size + 1, 0, none⟩ (.slice none 0 0)).setCell ⟨w.heap.size + 1 + 1, 0, none⟩ (.int .i64 0)).setCell ⟨w.heap.size + 1 + 1 + 1, 0, none⟩ (.int .i64 1) := ⟨_, rfl⟩
    obtain ⟨z0, z1, z2, hb9⟩ := set3 w2 w.heap.size _ _ _ _ _ _ l0 m0 e0 W9 hW9 w HB2.out
    rw [← hW9]
    refine ⟨.tuple #[.slice none 0 0, .int .i64 0, .int .i64 1], by simp [results, Try.f11, go_sem, z0, z1, z2], ?_⟩
    exact ⟨none, 0, by rw [HO.out]; rfl, by rw [HO.out]; exact fun j h => absurd h (Nat.not_lt_zero j), hb9⟩
  replace hv : VG g := Classical.not_not.1 hv
  have HV := Lib.hid hv
  rw [vgB_true hv]
  clear hv
  have hmf : ∀ (fn : Fn) (first cap : Array Value) (w : World), (Instr.makeFunc fn first cap).run Try.prog w = .ok (.func fn first cap) w := fun _ _ _ _ => rfl
  go_upto_region 6 with fail
  refine wp_named ?_
  intro w3 hw3
  have hc3 : Chg (fun b => b = w.heap.size + 1 + 1) w2 w3 := by rw [hw3]; exact Chg.setCell (S := fun b => b = w.heap.size + 1 + 1) (Chg.refl _ _) (p := ⟨w.heap.size + 1 + 1, 0, none⟩) (fun _ => rfl) _
  have HM3 := Lib.hid (show BoxAt w3 (w.heap.size + 1 + 1) [.int .i64 (-1)] from by rw [hw3]; exact HM2.out.put 0 _ (by simp))
  have HG3 := Lib.hid (HG2.out.chg hc3 (by omega) HG2.out.lt)
  have HL3 := Lib.hid (HL2.out.chg hc3 (by omega) HL2.out.lt)
  have HE3 := Lib.hid (HE2.out.chg hc3 (by omega) HE2.out.lt)
  have HB3 := Lib.hid (HB2.out.trans (hc3.below HB2.out.size fun b e => by omega))
  have c0 := (HG3.out 0 _ rfl).1
  have c1 := (HG3.out 1 _ rfl).1
  have c2 := (HG3.out 2 _ rfl).1
  clear hw3 hc3 l0 l0f m0 m0f e0 e0f
  go_wp2_with fail
  refine Calls.mono (HNP.out w3 HB3.out) ?_
  rintro e w4 ⟨M, k, rfl, hMlo, hM4, hb4⟩
  have HM4' := Lib.hid hM4
  have HB4 := Lib.hid (HB3.out.trans (hb4.mono HB3.out.size))
  have HM4 := Lib.hid (HM3.out.later hb4)
  have HL4 := Lib.hid (HL3.out.later hb4)
  have HE4 := Lib.hid (HE3.out.later hb4)
  have HMLO := Lib.hid (show w.heap.size + 1 + 1 + 1 < M from by have h1 := HE3.out.lt; omega)
  clear hM4 hb4 hMlo c0 c1 c2
  go_wp2_with fail
  refine Calls.mono (games_any g sa da sc dc M w4) ?_
  rintro e w5 ⟨PB, rfl, hPlo, hP5, hb5⟩
  have HP5 := Lib.hid hP5
  have HB5 := Lib.hid (HB4.out.trans (hb5.mono HB4.out.size))
  have HM5 := Lib.hid (HM4.out.later hb5)
  have HL5 := Lib.hid (HL4.out.later hb5)
  have HE5 := Lib.hid (HE4.out.later hb5)
  have HMP5 := Lib.hid (HM4'.out.later hb5)
  have HPLO := Lib.hid (show w.heap.size + 1 + 1 + 1 < PB from by have h1 := HE4.out.lt; omega)
  have HLT5 := Lib.hid (show w.heap.size + 1 + 1 + 1 < w5.heap.size from HE5.out.lt)
  obtain ⟨R, hR⟩ : ∃ R, R = gamesG g (l.map (·.1)) := ⟨_, rfl⟩
  have hWV : worstV g (l.map (·.1)) = match R.2 with
    | none => ((worstF R.1).1, (worstF R.1).2, 0)
    | some e => ([], 0, e) := by rw [hR]; exact if_pos HV.out
  have HWV := Lib.hid hWV
  have herr : ∀ e, R.2 = some e → e ≠ 0 := fun e h => by rw [hR] at h; exact gamesG_err h
  have HERR := Lib.hid herr
  have hseq := fun (S : Nat → Prop) hS => PF.games_seq 2 g sa da sc dc (l.map (·.1)) M k PB w w5 S HG.out HV.out HB5.out (by have := HPLO.out; omega) (by have := HMLO.out; omega) HP5.out HMP5.out hS
  rw [show gamesL g (l.map (·.1)) g.deps.length (beginS g) [] 0 = R from hR.symm] at hseq
  have HSEQ := Lib.hid hseq
  clear hb5 hPlo hP5 hR hWV herr hseq
  go_wp2_with fail
  refine (wpIn_wide (n := 3)).1 ?_
  refine' wpIn_rangeFunc_pan (n := 3) (by omega) (gf := 58) (lb := #[.pointer (some ⟨PB, 0, none⟩)]) rfl (enters_of Try.func58 (by kernel_rfl) rfl) (xs := R.1) (err := R.2) (Sb := fun k => k = w.heap.size + 1 ∨ k = w.heap.size + 1 + 1) (w0 := w5)
    (HSEQ.out _ (fun k hk => by have h1 := HLT5.out; have h2 := HPLO.out; have h3 := HMLO.out; have h4 := HP5.out.lt; have h5 := HMP5.out.lt; omega)) (Below.refl _ _) (fun k hk => by have h1 := HLT5.out; omega) (fun pre W => WsI w w5.heap.size pre W) (fun pre A B h hc => h.keep HLT5.out hc)
    ⟨HB5.out, HM5.out, HE5.out, none, 0, HL5.out, fun j h => absurd h (Nat.not_lt_zero j)⟩ _ ?assign ?body ?done ?pan
  case assign =>
    intro l' x ad c' W K' hK'
    have HK' := Lib.hid hK'
    clear hK'
    gi_wp2
    exact HK'.out
  case body =>
    intro l' pre x ad c' W hI hlt hpx hin
    obtain ⟨la, lc, hl, hil⟩ := hI.l
    have HI := Lib.hid hI
    have HL := Lib.hid hl
    have HIN := Lib.hid hin
    obtain ⟨m0, m0f⟩ := hI.m 0 _ rfl
    obtain ⟨l0, l0f⟩ := hl 0 _ rfl
    obtain ⟨mo, hmo⟩ : ∃ m, m = (worstF pre).2 := ⟨_, rfl⟩
    obtain ⟨lo, hlo⟩ : ∃ m, m = x.2 := ⟨_, rfl⟩
    obtain ⟨ln, hln⟩ : ∃ m, m = (worstF pre).1.length := ⟨_, rfl⟩
    obtain ⟨xl, hxl⟩ : ∃ m, m = x.1.length := ⟨_, rfl⟩
    rw [← hmo] at m0
    rw [← hln] at l0
    have HE := Lib.hid (And.intro hmo (And.intro hlo (And.intro hln hxl)))
    rw [← hlo, ← hxl]
    clear hI hl hin hil hmo hlo hln hxl hlt hpx
    by_cases hw : mo < lo
    · have g1 : decide (mo < lo) = true := decide_eq_true hw
      have HS := Lib.hid (show worstF (pre ++ [x]) = x from by rw [worstF_snoc]; exact if_pos (by rw [← HE.out.1, ← HE.out.2.1]; exact hw))
      gi_wp2_with fail
      obtain ⟨W3, hW3⟩ : ∃ W3, W3 = (W.setCell ⟨w.heap.size + 1, 0, none⟩ (.slice ad xl c')).setCell ⟨w.heap.size + 1 + 1, 0, none⟩ (.int .i64 lo) := ⟨_, rfl⟩
      rw [← hW3]
      have hca : Chg (fun k => k = w.heap.size + 1) W (W.setCell ⟨w.heap.size + 1, 0, none⟩ (.slice ad xl c')) := Chg.setCell (S := fun k => k = w.heap.size + 1) (Chg.refl _ _) (p := ⟨w.heap.size + 1, 0, none⟩) (fun _ => rfl) _
      have hcb : Chg (fun k => k = w.heap.size + 1 + 1) (W.setCell ⟨w.heap.size + 1, 0, none⟩ (.slice ad xl c')) W3 := by rw [hW3]; exact Chg.setCell (S := fun k => k = w.heap.size + 1 + 1) (Chg.refl _ _) (p := ⟨w.heap.size + 1 + 1, 0, none⟩) (fun _ => rfl) _
      have hlt5 := HLT5.out
      have hc3 : Chg (fun k => k = w.heap.size + 1 ∨ k = w.heap.size + 1 + 1) W W3 := (hca.mono fun _ _ h => .inl h).trans (hcb.mono fun _ _ h => .inr h)
      refine ⟨hc3, HI.out.b.trans (hc3.below HI.out.b.size fun k hk => by omega), ?_, HI.out.e.chg hc3 (by omega) HI.out.e.lt, ad, c', ?_, ?_⟩
      · rw [HS.out, hW3, ← HE.out.2.1]
        exact (HI.out.m.chg hca (by omega) HI.out.m.lt).put 0 _ (by simp)
      · rw [HS.out, ← HE.out.2.2.2]
        exact (HL.out.put 0 (.slice ad xl c') (by simp)).chg hcb (by omega) ((HL.out.put 0 (.slice ad xl c') (by simp)).lt)
      · rw [HS.out]
        exact HIN.out.chg hc3 fun k hk => by omega
    · have g1 : decide (mo < lo) = false := decide_eq_false hw
      have HS := Lib.hid (show worstF (pre ++ [x]) = worstF pre from by rw [worstF_snoc]; exact if_neg (by rw [← HE.out.1, ← HE.out.2.1]; exact hw))
      gi_wp2_with fail
      exact ⟨Chg.refl _ _, HI.out.b, by rw [HS.out]; exact HI.out.m, HI.out.e, by rw [HS.out]; exact HI.out.l⟩
  case done =>
    intro W he hI hdef
    have HRES := Lib.hid (show worstV g (l.map (·.1)) = ((worstF R.1).1, (worstF R.1).2, 0) from by rw [HWV.out, he])
    obtain ⟨la, lc, hl, hil⟩ := hI.l
    have HI := Lib.hid hI
    have HL := Lib.hid hl
    have HIL := Lib.hid hil
    have HDEF := Lib.hid hdef
    obtain ⟨mo, hmo⟩ : ∃ m, m = (worstF R.1).2 := ⟨_, rfl⟩
    obtain ⟨ln, hln⟩ : ∃ m, m = (worstF R.1).1.length := ⟨_, rfl⟩
    have HE := Lib.hid (And.intro hmo hln)
    have HMI := Lib.hid (show BoxAt W (w.heap.size + 1 + 1) [.int .i64 mo] from by rw [hmo]; exact hI.m)
    rw [← hln] at HL
    have HEI := Lib.hid hI.e
    have HBI := Lib.hid hI.b
    clear he hI hl hil hdef hmo hln HI
    go_upto_region 11 with fail
    refine wp_flow_j (fun _ _ w' => DoJ W w.heap.size (.slice la ln lc) (.int .i64 mo) (.int .i64 0) w') (by kernel_rfl) (by kernel_rfl) ?h0 ?_
    case h0 => exact ⟨HL.out, HMI.out, HEI.out, (Chg.refl _ _).drew⟩
    ((with_reducible refine FlowJ.pure (v := ?_) ?_ ?_ ?_ ?_); rotate_left 1; (focus (intro _; rfl)); (focus (intro β L' w' hJ hat; (try dsimp only at hJ); (try dsimp only); simpa only [setL, Nat.reduceEqDiff, if_false] using hJ)); (focus (intro β L' w' hJ hat; (try dsimp only at hJ); (obtain ⟨l0, l0f⟩ := hJ.l 0 _ rfl); go_simp; (try with_reducible rfl); done)); (try simp only [Act.put, List.setIfInBounds_toArray, List.set_cons_zero, List.set_cons_succ, Nat.reduceAdd]))
    ((with_reducible refine FlowJ.pure (v := ?_) ?_ ?_ ?_ ?_); rotate_left 1; (focus (intro _; rfl)); (focus (intro β L' w' hJ hat; (try dsimp only at hJ); (try dsimp only); simpa only [setL, Nat.reduceEqDiff, if_false] using hJ)); (focus (intro β L' w' hJ hat; (try dsimp only at hJ); (obtain ⟨m0, m0f⟩ := hJ.m 0 _ rfl); go_simp; (try with_reducible rfl); done)); (try simp only [Act.put, List.setIfInBounds_toArray, List.set_cons_zero, List.set_cons_succ, Nat.reduceAdd]))
    ((with_reducible refine FlowJ.eff ?_ ?_ ?_); (focus (intro _; rfl)); (focus (intro β L' w' hJ hat K' hK; (try dsimp only at hJ); (obtain ⟨l0, l0f⟩ := hJ.l 0 _ rfl; go_simp; refine hK.out _ ?_; exact hJ.set1))); (try simp only [Act.put, Nat.reduceAdd]))
    ((with_reducible refine FlowJ.eff ?_ ?_ ?_); (focus (intro _; rfl)); (focus (intro β L' w' hJ hat K' hK; (try dsimp only at hJ); (obtain ⟨m0, m0f⟩ := hJ.m 0 _ rfl; go_simp; refine hK.out _ ?_; exact hJ.set2))); (try simp only [Act.put, Nat.reduceAdd]))
    ((with_reducible refine FlowJ.eff ?_ ?_ ?_); (focus (intro _; rfl)); (focus (intro β L' w' hJ hat K' hK; (try dsimp only at hJ); (obtain ⟨e0, e0f⟩ := hJ.e 0 _ rfl; go_simp; refine hK.out _ ?_; exact hJ.set3))); (try simp only [Act.put, Nat.reduceAdd]))
    refine FlowJ.stop ?_
    dsimp only
    intro β W1 hJ
    have HJ := Lib.hid hJ
    have hlt5 := HLT5.out
    have hd1 := (hJ.ch.block w5.heap.size (Array.getElem?_eq_some_iff.1 HDEF.out).1 (by omega)).trans HDEF.out
    have HD1 := Lib.hid hd1
    clear hJ hd1
    go_wp2_with fail
    refine leavesM_mark (by simp) HD1.out ?_
    obtain ⟨W2, hW2⟩ : ∃ W2, W2 = W1.putObj w5.heap.size (.deferred none) := ⟨_, rfl⟩
    have hc2 : Chg (fun k => k = w5.heap.size) W1 W2 := by rw [hW2]; exact Chg.put W1 _ HD1.out rfl
    rw [← hW2]
    have hl2 := HJ.out.l.chg hc2 (by omega) HJ.out.l.lt
    have hm2 := HJ.out.m.chg hc2 (by omega) HJ.out.m.lt
    have he2 := HJ.out.e.chg hc2 (by omega) HJ.out.e.lt
    have hbo := HBI.out.size
    have hb2 : Below w.heap.size w W2 := (HBI.out.trans (HJ.out.ch.below hbo fun k hk => by omega)).trans (hc2.below (Nat.le_trans hbo HJ.out.ch.size) fun k hk => by omega)
    have hi2 : IntsN w.heap.size W2 la (worstF R.1).1 := ((HIL.out.chg HJ.out.ch fun k hk => by omega).chg hc2 fun k hk => by omega).mono (by omega)
    obtain ⟨z0, _⟩ := hl2 0 _ rfl
    obtain ⟨z1, _⟩ := hm2 0 _ rfl
    obtain ⟨z2, _⟩ := he2 0 _ rfl
    clear hW2
    refine leavesM_cons (f := 39) (args := #[.pointer (some ⟨w.heap.size + 1 + 1 + 1, 0, none⟩)]) (by simp) (by simp [go_sem]) ?_
    refine (stuckI_ret _ ⟨w.heap.size + 1 + 1 + 1, 0, none⟩ W2).mono ?_
    rintro e u' w'' ⟨rfl, rfl, hw''⟩
    rw [hw'']
    refine leavesM_cons (f := 43) (args := #[.pointer (some ⟨w.heap.size + 1 + 1 + 1, 0, none⟩), .pointer (some ⟨w.heap.size + 1, 0, none⟩), .pointer (some ⟨w.heap.size + 1 + 1, 0, none⟩)]) (by simp [settle]) (by simp [go_sem]) ?_
    refine (worst1_ok _ ⟨w.heap.size + 1 + 1 + 1, 0, none⟩ ⟨w.heap.size + 1, 0, none⟩ ⟨w.heap.size + 1 + 1, 0, none⟩ _ W2 z2).mono ?_
    rintro e u' w'' ⟨rfl, rfl, hw''⟩
    rw [hw'']
    refine ⟨.tuple #[.slice la ln lc, .int .i64 mo, .int .i64 0], by simp [results, Try.f11, go_sem, z0, z1, z2], ?_⟩
    exact ⟨la, lc, by rw [HRES.out, HE.out.1, HE.out.2], by rw [HRES.out]; exact hi2, hb2⟩
  case pan =>
    intro m W he hI hdef
    have hm0 := HERR.out m he
    have HRES := Lib.hid (show worstV g (l.map (·.1)) = ([], 0, m) from by rw [HWV.out, he])
    obtain ⟨la, lc, hl, _⟩ := hI.l
    obtain ⟨mo, hmo⟩ : ∃ m, m = (worstF R.1).2 := ⟨_, rfl⟩
    have hmi : BoxAt W (w.heap.size + 1 + 1) [.int .i64 mo] := by rw [hmo]; exact hI.m
    have hei := hI.e
    have hbi := hI.b
    have hlt5 := HLT5.out
    clear hI he hmo
    go_wp2_with fail
    refine leavesM_mark (by simp) hdef ?_
    obtain ⟨W2, hW2⟩ : ∃ W2, W2 = W.putObj w5.heap.size (.deferred none) := ⟨_, rfl⟩
    have hc2 : Chg (fun k => k = w5.heap.size) W W2 := by rw [hW2]; exact Chg.put W _ hdef rfl
    rw [← hW2]
    have hl2 := hl.chg hc2 (by omega) hl.lt
    have hm2 := hmi.chg hc2 (by omega) hmi.lt
    have he2 := hei.chg hc2 (by omega) hei.lt
    have hb2 : Below w.heap.size w W2 := hbi.trans (hc2.below hbi.size fun k hk => by omega)
    obtain ⟨z0, f0⟩ := hl2 0 _ rfl
    obtain ⟨z1, f1⟩ := hm2 0 _ rfl
    obtain ⟨z2, f2⟩ := he2 0 _ rfl
    clear hW2
    refine leavesM_cons (f := 39) (args := #[.pointer (some ⟨w.heap.size + 1 + 1 + 1, 0, none⟩)]) (by simp) (by simp [go_sem]) ?_
    refine (stuckI_pan _ ⟨w.heap.size + 1 + 1 + 1, 0, none⟩ 0 m [] W2 z2 f2).mono ?_
    rintro e u' w'' ⟨rfl, rfl, hw''⟩
    rw [hw'']
    obtain ⟨W8, hW8⟩ : ∃ W8, W8 = W2.setCell ⟨w.heap.size + 1 + 1 + 1, 0, none⟩ (.int .i64 m) := ⟨_, rfl⟩
    have hc8 : Chg (fun k => k = w.heap.size + 1 + 1 + 1) W2 W8 := by rw [hW8]; exact Chg.setCell (S := fun k => k = w.heap.size + 1 + 1 + 1) (Chg.refl _ _) (p := ⟨w.heap.size + 1 + 1 + 1, 0, none⟩) (fun _ => rfl) _
    have hl8 := hl2.chg hc8 (by omega) hl2.lt
    have hm8 := hm2.chg hc8 (by omega) hm2.lt
    have he8 : BoxAt W8 (w.heap.size + 1 + 1 + 1) [.int .i64 m] := by rw [hW8]; exact he2.put 0 _ (by simp)
    have hb8 : Below w.heap.size w W8 := hb2.trans (hc8.below hb2.size fun k hk => by omega)
    rw [← hW8]
    clear hW8
    obtain ⟨y0, g0⟩ := hl8 0 _ rfl
    obtain ⟨y1, g1⟩ := hm8 0 _ rfl
    obtain ⟨y2, g2⟩ := he8 0 _ rfl
    refine leavesM_cons (f := 43) (args := #[.pointer (some ⟨w.heap.size + 1 + 1 + 1, 0, none⟩), .pointer (some ⟨w.heap.size + 1, 0, none⟩), .pointer (some ⟨w.heap.size + 1 + 1, 0, none⟩)]) (by simp [settle]) (by simp [go_sem]) ?_
    refine (worst1_err _ ⟨w.heap.size + 1 + 1 + 1, 0, none⟩ ⟨w.heap.size + 1, 0, none⟩ ⟨w.heap.size + 1 + 1, 0, none⟩ m mo _ _ W8 y2 hm0 y0 g0 y1 g1 (by simp)).mono ?_
    rintro e u' w'' ⟨rfl, rfl, hw''⟩
    rw [hw'']
    obtain ⟨W7, hW7⟩ : ∃ W7, W7 = (W8.setCell ⟨w.heap.size + 1, 0, none⟩ (.slice none 0 0)).setCell ⟨w.heap.size + 1 + 1, 0, none⟩ (.int .i64 0) := ⟨_, rfl⟩
    have hc6 : Chg (fun k => k = w.heap.size + 1) W8 (W8.setCell ⟨w.heap.size + 1, 0, none⟩ (.slice none 0 0)) := Chg.setCell (S := fun k => k = w.heap.size + 1) (Chg.refl _ _) (p := ⟨w.heap.size + 1, 0, none⟩) (fun _ => rfl) _
    have hc7 : Chg (fun k => k = w.heap.size + 1 + 1) (W8.setCell ⟨w.heap.size + 1, 0, none⟩ (.slice none 0 0)) W7 := by rw [hW7]; exact Chg.setCell (S := fun k => k = w.heap.size + 1 + 1) (Chg.refl _ _) (p := ⟨w.heap.size + 1 + 1, 0, none⟩) (fun _ => rfl) _
    have hl6 : BoxAt (W8.setCell ⟨w.heap.size + 1, 0, none⟩ (.slice none 0 0)) (w.heap.size + 1) [.slice none 0 0] := hl8.put 0 _ (by simp)
    have hm6 := hm8.chg hc6 (by omega) hm8.lt
    have hm7 : BoxAt W7 (w.heap.size + 1 + 1) [.int .i64 0] := by rw [hW7]; exact hm6.put 0 _ (by simp)
    have he6 := he8.chg hc6 (by omega) he8.lt
    have q0 := ((hl6.chg hc7 (by omega) hl6.lt) 0 _ rfl).1
    have q1 := (hm7 0 _ rfl).1
    have q2 := ((he6.chg hc7 (by omega) he6.lt) 0 _ rfl).1
    have hb7 : Below w.heap.size w W7 := (hb8.trans (hc6.below hb8.size fun k hk => by omega)).trans (hc7.below (Nat.le_trans hb8.size hc6.size) fun k hk => by omega)
    rw [← hW7]
    refine ⟨.tuple #[.slice none 0 0, .int .i64 0, .int .i64 m], by simp [results, Try.f11, go_sem, q0, q1, q2], ?_⟩
    exact ⟨none, 0, by rw [HRES.out]; rfl, by rw [HRES.out]; exact fun j h => absurd h (Nat.not_lt_zero j), hb7⟩
end Go.Proofs.Ytgccankekflchaa
