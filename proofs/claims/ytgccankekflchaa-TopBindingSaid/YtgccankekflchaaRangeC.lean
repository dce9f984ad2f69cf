/- A loop over an iterator that may change old blocks of its own (T), and whose body may change all that the iterator does not keep. -/
import Derived.RangeFuncNested
import Derived.RangeFuncBound
import Derived.RangeFuncCalls
import Derived.RangeFuncLeaves
import Derived.RangeFuncBox
import Derived.RangeFuncWrites
import Derived.RangeFuncKeeps
import Derived.Below
import Derived.Test.YtgccankekflchaaChg
namespace Go.Proofs.Ytgccankekflchaa
open Go Go.RowKit

theorem Chg.put {S : Nat → Prop} (W : World) {l : Nat} {o : Obj} (o' : Obj) (_ : W.heap[l]? = some o) (hs : S l) : Chg S W (W.putObj l o') :=
  (Chg.refl S W).grown (grownBy_putObj' W l o') (fun k e _ => by cases e; exact hs)
theorem Chg.alloc1 {S : Nat → Prop} (w : World) (o : Obj) : Chg S w (w.alloc o) := (Chg.refl S w).alloc o
/-- an iterator that hands out xs in turn; T: the old blocks that it may change; keep: those that a round has to keep -/
def SeqC {α : Type} (F : Fence) (n : Nat) (P : Program) (g : Nat) (lb : Array Value) (encs : α → Array Value) (xs : List α) (T keep : Nat → Prop) (w : World) : Prop :=
  ∀ (l : Nat) (J : List α → World → Prop) (W : World), Below w.heap.size w W → (∀ pre A B, J pre A → Chg T A B → J pre B) →
    (∀ pre x W1, J pre W1 → (pre ++ [x]) <+: xs → YieldAt F (n - 1) P l (encs x) W1 fun e W' => e = .returned (.bool true) ∧ J (pre ++ [x]) W' ∧ W1.heap.size ≤ W'.heap.size ∧ ∀ k, keep k → W'.heap[k]? = W1.heap[k]?) →
    J [] W → CallsIn F n P g (#[.func (.yield l) #[] #[]] ++ lb) W fun e W' => (∃ v, e = .returned v) ∧ J xs W'
/-- how a round ends -/
def postC {α : Type} (H : Nat) (keep : Nat → Prop) (I : List α → World → Prop) (xs : List α) (W : World) : Exit → Act → World → Prop
  | .normal, _, W' => W.heap.size ≤ W'.heap.size ∧ (∀ k, keep k ∨ k = H ∨ k = H + 1 → W'.heap[k]? = W.heap[k]?) ∧ I xs W'
  | _, _, _ => False
theorem wpIn_rangeFunc_chg {F : Fence} {n : Nat} {P : Program} {α : Type} {g : Operand} {ps : Array Tmp} {assign body : Code} {Q : Exit → Act → World → Prop} {a : Act} {w : World} (hro : F.round = none) (h1 : 1 ≤ n) {gf : Nat} {lb : Array Value} (hg : a.eval g = .func (.func gf) #[] lb)
    (hFg : F.fn gf) (eg : ∀ args w, (callFunc gf args).run P w = .ok (.enter gf args) w) {encs : α → Array Value} {xs : List α} {T keep : Nat → Prop} {w0 : World} (hseq : SeqC F (n - 1) P gf lb encs xs T keep w0)
    (hb0 : Below w0.heap.size w0 w) (hk : ∀ k, keep k → k < w.heap.size) (hT : ∀ k, T k → k < w.heap.size) (hps : ∀ x, (encs x).size = ps.size)
    (I : List α → World → Prop) (I₂ : List α → α → World → World → Prop) (hI : ∀ pre A B, I pre A → Chg (fun k => T k ∨ k = w.heap.size ∨ k = w.heap.size + 1) A B → I pre B)
    (hI₂ : ∀ pre x W A B, I₂ pre x W A → Chg (fun k => k = w.heap.size + 1) A B → I₂ pre x W B) (h0 : I [] w) (a₁ : α → World → Act)
    (hassign : ∀ (l : Nat) (pre : List α) (x : α) (W : World) (K : Act → World → Prop), I pre W → w.heap.size + 1 < W.heap.size → (pre ++ [x]) <+: xs → (∀ W', Chg (fun _ => False) W W' → I₂ pre x W W' → K (a₁ x W) W') →
      assign.wpIn (F.inRound l) (n - 1 - 1) P (Exit.then K (fun _ _ _ => False)) { tmps := (ps.zip (encs x)).foldl (fun t (p, v) => t.setIfInBounds p v) a.tmps, defers := [] } W)
    (hbody : ∀ (l : Nat) (pre : List α) (x : α) (W W' : World), I₂ pre x W W' → w.heap.size + 1 < W'.heap.size → (pre ++ [x]) <+: xs → body.wpIn (F.inRound l) (n - 1 - 1) P (postC w.heap.size keep I (pre ++ [x]) W') (a₁ x W) W')
    (hdone : ∀ (D : Nat) (W : World), w.heap.size ≤ D → I xs W → W.heap[D]? = some (.deferred (some [])) → Q .normal { a with defers := { target := .collected D, args := #[] } :: a.defers } W) :
    (Code.rangeFunc g ps assign body).wpIn F n P Q a w := by
  refine wpIn_rangeFunc fun fn hfn => ?_
  rw [hro]
  obtain ⟨H, hH⟩ : ∃ H, H = w.heap.size := ⟨_, rfl⟩
  rw [← hH] at hI hI₂ hassign hbody hk hT
  let rc : LoopState → Option Code → Loop := fun st pe => { state := st, pending := pe, fn, tmps := a.tmps, params := ps, assign, body, defers := H }
  obtain ⟨W1, hW1⟩ : ∃ W1, W1 = (w.alloc (.deferred (some []))).alloc (.loop (rc .ready none)) := ⟨_, rfl⟩
  have hl1 : W1.heap[H + 1]? = some (.loop (rc .ready none)) := by
    have := World.alloc_heap_new (w.alloc (.deferred (some []))) (.loop (rc .ready none))
    rw [World.size_alloc, ← hH] at this
    rw [hW1]; exact this
  have hd1 : W1.heap[H]? = some (.deferred (some [])) := by
    have := World.alloc_heap_new w (.deferred (some []))
    rw [hW1, Below.heap_alloc _ _ _ (by simp; omega), hH]
    exact this
  have hi1 : I [] W1 := by rw [hW1]; exact hI _ _ _ (hI _ _ _ h0 (Chg.alloc1 _ _)) (Chg.alloc1 _ _)
  have hs1 : W1.heap.size = H + 1 + 1 := by rw [hW1]; simp [hH]
  have hb1 : Below w0.heap.size w0 W1 := by
    rw [hW1]; exact hb0.trans ((((Below.refl _ w).alloc (Nat.le_refl _) _).alloc (by simp) _).mono hb0.size)
  have hlt : ∀ {W : World} {k : Nat} {o : Obj}, W.heap[k]? = some o → k < W.heap.size := fun h => (Array.getElem?_eq_some_iff.1 h).1
  refine ⟨H + 1, [{ target := .collected H, args := #[] }], W1, { target := .fn (.func gf) lb, args := #[.func (.yield (H + 1)) #[] #[]] }, W1, gf, #[.func (.yield (H + 1)) #[] #[]] ++ lb, W1, ?_, ?_, ?_, ?_, fun _ => h1, ?_⟩
  · rw [hW1, hH]; subst hH; exact run_enterLoop_outer _ _ _ _ _
  · simp only [resolve, hg]
    simp [go_sem]
  · intro f' hf'; simp [Target.leads] at hf'; subst hf'; exact hFg
  · simp [invoke, go_sem, eg]
  refine (hseq (H + 1) (fun pre W => I pre W ∧ W.heap[H + 1]? = some (.loop (rc .ready none)) ∧ W.heap[H]? = some (.deferred (some []))) W1 hb1
      (fun s A B hs hc => ⟨hI s A B hs.1 (hc.mono fun k _ h => .inl h), (hc.block _ (hlt hs.2.1) fun h => by have := hT _ h; omega).trans hs.2.1, (hc.block _ (hlt hs.2.2) fun h => by have := hT _ h; omega).trans hs.2.2⟩) ?_ ⟨hi1, hl1, hd1⟩).mono ?_
  · rintro pre x W ⟨hi, hl, hd⟩ hpx
    refine ⟨fn, _, assign, body, run_yield (P := P) (args := encs x) hl (hps x), roundIn_of_wpIn hfn (hassign _ pre x W _ hi (hlt hl) hpx ?_)⟩
    intro W' hc0 hi2
    have hl' := (hc0.block _ (hlt hl) fun h => h).trans hl
    have hd' := (hc0.block _ (hlt hd) fun h => h).trans hd
    refine ⟨_, run_beginRound hl' rfl, ?_⟩
    have hl2 : (W'.putObj (H + 1) (.loop { rc .ready none with state := .busy })).heap[H + 1]? = some (.loop { rc .ready none with state := .busy }) := World.putObj_heap_same (hlt hl')
    have hd2 : (W'.putObj (H + 1) (.loop { rc .ready none with state := .busy })).heap[H]? = some (.deferred (some [])) := (World.putObj_heap_other (by omega)).trans hd'
    have hcp : Chg (fun k => k = H + 1) W' (W'.putObj (H + 1) (.loop { rc .ready none with state := .busy })) := Chg.put W' _ hl' rfl
    refine wpIn_mono (hbody _ pre x W _ (hI₂ _ _ _ _ _ hi2 hcp) (hlt hl2) hpx) ?_
    rintro e a3 W3 hp
    cases e with
    | normal =>
      obtain ⟨hz3, hk3, hi3⟩ := hp
      have h3 := (hk3 (H + 1) (.inr (.inr rfl))).trans hl2
      have hd3 := (hk3 H (.inr (.inl rfl))).trans hd2
      have hc3 : Chg (fun k => k = H + 1) W3 (W3.putObj (H + 1) (.loop (rc .ready none))) := Chg.put W3 _ h3 rfl
      refine ⟨_, _, run_endRound (P := P) none h3, rfl, ⟨hI _ _ _ hi3 (hc3.mono fun k _ h => .inr (.inr h)), World.putObj_heap_same (hlt h3), (World.putObj_heap_other (by omega)).trans hd3⟩, ?_, fun k hkk => ?_⟩
      · have h1 := hc0.size
        have h2 := hcp.size
        have h3 := hc3.size
        exact Nat.le_trans h1 (Nat.le_trans h2 (Nat.le_trans hz3 h3))
      · have hkH := hk k hkk
        have hkW : k < W.heap.size := by have := hlt hl; omega
        refine (World.putObj_heap_other (by omega)).trans ((hk3 k (.inl hkk)).trans ?_)
        refine (World.putObj_heap_other (by omega)).trans ?_
        exact hc0.block k hkW fun h => h
    | ret => exact hp.elim
    | exit id => exact hp.elim
    | goto t => exact hp.elim
    | panic ch => exact hp.elim
    | outgrown => exact hp.elim
  · rintro e W2 ⟨⟨v, rfl⟩, hi, hl, hd⟩
    have hc : Chg (fun k => k = H + 1) W2 (W2.putObj (H + 1) (.loop { rc .ready none with state := .exhausted })) := Chg.put W2 _ hl rfl
    exact ⟨none, _, run_endLoop (P := P) hl (by simp [rc]), hdone H _ (by omega) (hI _ _ _ hi (hc.mono fun k _ h => .inr (.inr h))) ((World.putObj_heap_other (by omega)).trans hd)⟩
end Go.Proofs.Ytgccankekflchaa

