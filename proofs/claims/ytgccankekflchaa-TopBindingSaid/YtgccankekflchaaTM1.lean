/- Package play: situations, of, newPlayer, begin, what is deferred. -/
import Derived.Test.YtgccankekflchaaGamC
import Derived.Test.YtgccankekflchaaGamE
import Derived.Test.YtgccankekflchaaGamR
import Derived.Laws.MakeOwn
import Derived.Defers
import Derived.Recover
import Derived.Laws.Pointers
namespace Go.Proofs.Ytgccankekflchaa
open Go.RowKit Go.Maps

abbrev pc15 (t m b s0 s1 s2 s3 s4 s5 : Int) (f0 f1 f2 f3 f4 f5 : Bool) : List Value := [.int .i64 t, .int .i64 m, .int .i64 b, .int .i64 s0, .int .i64 s1, .int .i64 s2, .int .i64 s3, .int .i64 s4, .int .i64 s5, .bool f0, .bool f1, .bool f2, .bool f3, .bool f4, .bool f5]
def pyC (s : St) : List Value := pc15 s.turn s.starts.length s.budget (ig s.starts 0) (ig s.starts 1) (ig s.starts 2) (ig s.starts 3) (ig s.starts 4) (ig s.starts 5) (bg s.failed 0) (bg s.failed 1) (bg s.failed 2) (bg s.failed 3) (bg s.failed 4) (bg s.failed 5)
abbrev pyV (s : St) : Value := .agg (pyC s).toArray
abbrev pyZ : List Value := pc15 0 0 0 0 0 0 0 0 0 false false false false false false
/-- what can be looked up -/
def FitP (s : St) : Prop := s.starts.length ≤ 6 ∧ s.failed.length = s.starts.length
theorem pyV_inj {s s' : St} (h : FitP s) (h' : FitP s') (e : pyV s = pyV s') : s = s' := by
  unfold pyV pyC pc15 at e
  simp only [Value.agg.injEq, Array.mk.injEq, List.cons.injEq, Value.int.injEq, Value.bool.injEq, true_and, and_true] at e
  obtain ⟨e1, em, e2, a0, a1, a2, a3, a4, a5, b0, b1, b2, b3, b4, b5⟩ := e
  have hS : ∀ i, i < 6 → ig s.starts i = ig s'.starts i := lt6 a0 a1 a2 a3 a4 a5
  have hF : ∀ i, i < 6 → bg s.failed i = bg s'.failed i := lt6 b0 b1 b2 b3 b4 b5
  obtain ⟨h1, h2⟩ := h
  obtain ⟨h3, h4⟩ := h'
  have hm : s.starts.length = s'.starts.length := by omega
  refine St.ext' e1 (List.ext_getElem hm fun i k1 k2 => ?_) (List.ext_getElem (by omega) fun i k1 k2 => ?_) e2
  · rw [← ig_lt k1, ← ig_lt k2]
    exact hS i (by omega)
  · rw [← bg_lt k1, ← bg_lt k2]
    exact hF i (by omega)
theorem lawPy : Keyed Try.prog 92 := Keyed.of_law (deep_law_laid laidOutG (m := 4) (by omega) (of_decide_eq_true (by kernel_rfl)) (by kernel_rfl) (by kernel_rfl))
theorem keyPy {t m b s0 s1 s2 s3 s4 s5 : Int} (f0 f1 f2 f3 f4 f5 : Bool) (ht : inIG t) (hm : inIG m) (hb : inIG b) (h0 : inIG s0) (h1 : inIG s1) (h2 : inIG s2) (h3 : inIG s3) (h4 : inIG s4) (h5 : inIG s5) :
    ∃ l, keyOf Try.prog 92 (.agg (pc15 t m b s0 s1 s2 s3 s4 s5 f0 f1 f2 f3 f4 f5).toArray) = some l := by
  have hk : Try.prog.keyType 92 = true := by kernel_rfl
  have c1 : Try.prog.cellsOf 92 = 15 := by kernel_rfl
  have c2 : Try.prog.cellsOf 44 = 6 := by kernel_rfl
  have c3 : Try.prog.cellsOf 3 = 1 := by kernel_rfl
  have c4 : Try.prog.cellsOf 45 = 6 := by kernel_rfl
  have c5 : Try.prog.cellsOf 4 = 1 := by kernel_rfl
  obtain ⟨n, hn⟩ := sizeTypesG
  unfold keyOf
  simp only [Try.underlying92]
  rw [hk, hn]
  simp [pc15, Value.formed, Program.keyLits, Try.underlying92, Try.underlying44, Try.underlying45, Try.underlying3, Try.underlying4, c1, c2, c3, c4, c5, Value.cells, List.range_succ, wf_ofG ht, wf_ofG hm, wf_ofG hb, wf_ofG h0, wf_ofG h1, wf_ofG h2, wf_ofG h3, wf_ofG h4, wf_ofG h5]
/-- numbers of a situation that fit -/
def InS (s : St) : Prop := inIG s.turn ∧ inIG s.budget ∧ ∀ i, inIG (ig s.starts i)
theorem keyPyS {s : St} (hf : FitP s) (h : InS s) : ∃ l, keyOf Try.prog 92 (pyV s) = some l := by
  obtain ⟨h1, h2, h3⟩ := h
  exact keyPy _ _ _ _ _ _ h1 (by have := hf.1; unfold inIG; omega) h2 (h3 0) (h3 1) (h3 2) (h3 3) (h3 4) (h3 5)
theorem box_row {w : World} {b : Nat} {cs : List Value} (h : BoxAt w b cs) (o : Nat) (vs cs' : List Value) (hl : cs'.length = cs.length) (ho : o + vs.length ≤ cs.length) (hin : ∀ j (hj : j < vs.length), cs'[o + j]? = some vs[j]) (hout : ∀ j, (j < o ∨ o + vs.length ≤ j) → cs'[j]? = cs[j]?) : BoxAt (w.setCells b o vs) b cs' := by
  have hs : ∀ j, j < vs.length → (w.cell? ⟨b, o + j, none⟩).isSome = true := fun j hj => by
    have hj2 : o + j < cs.length := by omega
    rw [(h (o + j) _ (List.getElem?_eq_getElem hj2)).1]
    rfl
  intro j u hu
  have hjl : j < cs'.length := (List.getElem?_eq_some_iff.1 hu).1
  have hjc : j < cs.length := by omega
  refine ⟨?_, by rw [World.frozen?_setCells]; exact (h j _ (List.getElem?_eq_getElem hjc)).2⟩
  by_cases hc : j < o ∨ o + vs.length ≤ j
  · rw [World.cell?_setCells_out _ _ _ _ _ (fun _ _ => hc)]
    exact (h j u (by rw [← hout j hc]; exact hu)).1
  · obtain ⟨k, rfl⟩ : ∃ k, j = o + k := ⟨j - o, by omega⟩
    have hk : k < vs.length := by omega
    rw [World.cell?_setCells_in b vs o w hs k hk]
    rw [hin k hk] at hu
    exact hu
theorem bg_out {l : List Bool} {i : Nat} (h : l.length ≤ i) : bg l i = false := by simp [bg, List.getD_eq_getElem?_getD, List.getElem?_eq_none h]
theorem py_starts {w : World} {b : Nat} {t m u : Int} {f0 f1 f2 f3 f4 f5 : Bool} {l : List Int} (h : BoxAt w b (pc15 t m u 0 0 0 0 0 0 f0 f1 f2 f3 f4 f5)) (hl : l.length ≤ 6) :
    BoxAt (w.setCells b 3 (l.map (Value.int .i64))) b (pc15 t m u (ig l 0) (ig l 1) (ig l 2) (ig l 3) (ig l 4) (ig l 5) f0 f1 f2 f3 f4 f5) := by
  refine box_row h 3 _ _ rfl (by simp; omega) (fun j hj => ?_) (fun j hj => ?_)
  · rw [List.length_map] at hj
    rw [List.getElem_map, ← ig_lt hj]
    have : j = 0 ∨ j = 1 ∨ j = 2 ∨ j = 3 ∨ j = 4 ∨ j = 5 := by omega
    rcases this with rfl | rfl | rfl | rfl | rfl | rfl <;> rfl
  · rw [List.length_map] at hj
    have z : ∀ i, 3 + l.length ≤ 3 + i → some (Value.int .i64 (ig l i)) = some (Value.int .i64 0) := fun i hi => by rw [ig_out (by omega)]
    match j, hj with
    | 0, _ => rfl
    | 1, _ => rfl
    | 2, _ => rfl
    | 3, hj => exact z 0 (by omega)
    | 4, hj => exact z 1 (by omega)
    | 5, hj => exact z 2 (by omega)
    | 6, hj => exact z 3 (by omega)
    | 7, hj => exact z 4 (by omega)
    | 8, hj => exact z 5 (by omega)
    | j + 9, _ => rfl
theorem py_failed {w : World} {b : Nat} {t m u s0 s1 s2 s3 s4 s5 : Int} {l : List Bool} (h : BoxAt w b (pc15 t m u s0 s1 s2 s3 s4 s5 false false false false false false)) (hl : l.length ≤ 6) :
    BoxAt (w.setCells b 9 (l.map Value.bool)) b (pc15 t m u s0 s1 s2 s3 s4 s5 (bg l 0) (bg l 1) (bg l 2) (bg l 3) (bg l 4) (bg l 5)) := by
  refine box_row h 9 _ _ rfl (by simp; omega) (fun j hj => ?_) (fun j hj => ?_)
  · rw [List.length_map] at hj
    rw [List.getElem_map, ← bg_lt hj]
    have : j = 0 ∨ j = 1 ∨ j = 2 ∨ j = 3 ∨ j = 4 ∨ j = 5 := by omega
    rcases this with rfl | rfl | rfl | rfl | rfl | rfl <;> rfl
  · rw [List.length_map] at hj
    have z : ∀ i, 9 + l.length ≤ 9 + i → some (Value.bool (bg l i)) = some (Value.bool false) := fun i hi => by rw [bg_out (by omega)]
    match j, hj with
    | 0, _ => rfl
    | 1, _ => rfl
    | 2, _ => rfl
    | 3, _ => rfl
    | 4, _ => rfl
    | 5, _ => rfl
    | 6, _ => rfl
    | 7, _ => rfl
    | 8, _ => rfl
    | 9, hj => exact z 0 (by omega)
    | 10, hj => exact z 1 (by omega)
    | 11, hj => exact z 2 (by omega)
    | 12, hj => exact z 3 (by omega)
    | 13, hj => exact z 4 (by omega)
    | 14, hj => exact z 5 (by omega)
    | j + 15, _ => rfl
theorem run_copy_boolsP {dT sT ty : TypeId} (hu : Try.prog.underlying dT = some (.slice 4)) {w : World} {B o dLen dCap sCap : Nat} {sa : Option Addr} {l : List Bool} (hI : Bools w sa l) (hl : l.length ≤ dLen)
    (hc : ∀ j, j < l.length → (w.cell? ⟨B, o + j, none⟩).isSome = true) (hf : ∀ j, j < l.length → w.frozen? ⟨B, o + j, none⟩ = false) :
    (Builtin.copy_ #[dT, sT] ty #[.slice (some ⟨B, o, none⟩) dLen dCap, .slice sa l.length sCap]).run Try.prog w = .ok (.int .i64 l.length) (w.setCells B o (l.map Value.bool)) := by
  have hs : (Try.prog.info? 4).map (·.size) = some 1 := by kernel_rfl
  by_cases h0 : l.length = 0
  · obtain rfl : l = [] := List.eq_nil_of_length_eq_zero h0
    exact run_copy_none w dT sT ty 4 _ _ _ _ _ _ hu hs (by simp)
  · obtain ⟨b, off, rfl, fc⟩ := hI.fam (by omega)
    have := run_copy_cells (P := Try.prog) w dT sT ty 4 B o dLen dCap ⟨b, off, none⟩ l.length sCap (l.map Value.bool) hu hs (by rw [List.length_map]; exact (Nat.min_eq_left hl).symm) (fun j v hj => ?_) (by simpa using hc) (by simpa using hf) (fun v hv => by obtain ⟨x, _, rfl⟩ := List.mem_map.1 hv; rfl)
    · simpa [goInt] using this
    · have hj' : j < l.length := by
        rcases Nat.lt_or_ge j l.length with h | h
        · exact h
        · rw [List.getElem?_eq_none (by simpa using h)] at hj; cases hj
      rw [List.getElem?_map, List.getElem?_eq_getElem hj'] at hj
      simp at hj
      subst hj
      have e : (Addr.add ⟨b, off, none⟩ j) = ⟨b, off + j, none⟩ := by
        unfold Addr.add
        by_cases hz : j = 0
        · subst hz; rw [if_pos rfl]; rfl
        · rw [if_neg hz]
      rw [e, fc j hj', bg_lt hj']
end Go.Proofs.Ytgccankekflchaa
namespace Go.Proofs.Ytgccankekflchaa
open Go.RowKit Go.Maps

theorem results_ct {P : Program} {fn : Func} {a b : Nat} {t : TypeId} (h : fn.results = #[.cell a t, .tmp b]) {tmps : Array Value} {p : Addr} (hp : tmps.getD a undef = .pointer (some p)) {v : Value} {w : World} (hl : (loadVar t p).run P w = .ok v w) :
    (results fn tmps).run P w = .ok (.tuple #[v, tmps.getD b undef]) w := by
  unfold results
  rw [h]
  simp only [hp, asAddr, Array.mapM_eq_mapM_toList, List.mapM_cons, List.mapM_nil]
  simp [hl]
def okP (p : Pos) : Prop := p.starts.length ≤ 6 ∧ p.failed.length = p.starts.length
instance (p : Pos) : Decidable (okP p) := inferInstanceAs (Decidable (_ ∧ _))
def ofV (p : Pos) : Value := if okP p then pyV p.st else .agg pyZ.toArray
set_option maxRecDepth 100000 in
set_option maxHeartbeats 4000000 in
theorem of_any (p : Pos) (sa fa : Option Addr) (sc fc : Nat) (w : World) (hP : PsAt w p sa fa) : Calls Try.prog 57 #[psV p sa sc fa fc] w (RetB (.tuple #[ofV p, .bool (decide (okP p))]) w) := by
  have HP := Lib.hid hP
  obtain ⟨n, hn⟩ : ∃ n, n = p.starts.length := ⟨_, rfl⟩
  obtain ⟨m, hm⟩ : ∃ n, n = p.failed.length := ⟨_, rfl⟩
  obtain ⟨t, ht⟩ : ∃ n, n = p.turn := ⟨_, rfl⟩
  obtain ⟨bu, hbu⟩ : ∃ n, n = p.budget := ⟨_, rfl⟩
  obtain ⟨ch, hch⟩ : ∃ n, n = p.choice := ⟨_, rfl⟩
  obtain ⟨bo, hbo⟩ : ∃ n, n = p.bound := ⟨_, rfl⟩
  have HN := Lib.hid (And.intro hn hm)
  have HT := Lib.hid (And.intro ht hbu)
  unfold psV
  rw [← hn, ← hm, ← ht, ← hbu, ← hch, ← hbo]
  clear hP hn hm ht hbu hch hbo
  go_enter Try.func57, Try.ntmps57
  go_upto_region 1 with fail
  refine wp_named ?_
  intro w1 hw1
  obtain ⟨hb1, hs1, ⟨hx1, _⟩, hr1, _⟩ := alloc2t w [.int .i64 t, .slice sa n sc, .slice fa m fc, .int .i64 bu, .int .i64 ch, .int .i64 bo] pyZ _ _ w1 hw1
  have HB1 := Lib.hid hb1
  have HS1 := Lib.hid hs1
  have HX1 := Lib.hid hx1
  have HR1 := Lib.hid hr1
  have c0 := (hx1 0 _ rfl).1
  have c1 := (hx1 1 _ rfl).1
  have c2 := (hx1 2 _ rfl).1
  have c3 := (hx1 3 _ rfl).1
  clear hw1 hb1 hs1 hx1 hr1
  by_cases hok : n ≤ 6 ∧ m = n
  · obtain ⟨h6, rfl⟩ := hok
    have HOK := Lib.hid (show okP p from by unfold okP; rw [← HN.out.1, ← HN.out.2]; exact ⟨h6, rfl⟩)
    have e6 : decide ((6 : Int) < (m : Int)) = false := decide_eq_false (by omega)
    go_upto_region 4 with fail
    refine wp_named ?_
    intro w3 hw3
    obtain ⟨T, hT⟩ : ∃ T, T = w1.heap.size := ⟨_, rfl⟩
    obtain ⟨hb3, hs3, hx3, -⟩ := alloc1 w1 (pc15 t m bu 0 0 0 0 0 0 false false false false false false) _ w3 hw3
    rw [← hT] at hx3
    have HB3 := Lib.hid hb3
    have HX3 := Lib.hid hx3
    have HTE := Lib.hid hT
    rw [← hT]
    clear hw3 hb3 hs3 hx3 hT c0 c1 c2 c3
    have q1 := ((HX1.out.later HB3.out) 1 _ rfl).1
    have hS : ∀ wy : World, Below w3.heap.size w3 wy → wy.cell? ⟨w.heap.size, 1, none⟩ = some (.slice sa m sc) := fun wy hy => cell_later hy q1
    clear q1
    (refine wp_flow_n 4 _ [] [] (fun w' w'' => w'' = w'.setCells T 3 (p.starts.map (Value.int .i64))) (.int .i64 m) (by rfl) (by kernel_rfl) (by kernel_rfl) (by kernel_rfl) (by kernel_rfl) ?_); simp only [List.take_succ_cons, List.take_zero]
    repeat (first | ((with_reducible refine Flow.pure hS StayG.nil (v := ?_) ?_ ?_ ?_ ?_); rotate_left 1; (focus kernel_rfl); (focus (intro _; rfl)); (focus (intro β wx hSw; (try dsimp only at hSw); go_simp; (try with_reducible rfl); done)); (try simp only [Act.put, List.setIfInBounds_toArray, List.set_cons_zero, List.set_cons_succ, Nat.reduceAdd])))
    ((with_reducible refine Flow.stop ?_); dsimp only; intro β w4 hI)
    have hb4 := hI.below
    have hx4 := HX3.out.later hb4
    refine ⟨rfl, fun K' hK => ?_, fun w5 hE => ?_⟩
    · have hI3 : Ints w4 sa p.starts := HP.out.s.later (HB1.out.trans ((HB3.out.trans (hb4.mono HB3.out.size)).mono HB1.out.size))
      have hlp : p.starts.length ≤ 6 := by rw [← HN.out.1]; exact h6
      have hrun := run_copy_intsG (dT := 22) (sT := 22) (ty := 3) Try.underlying22 (B := T) (o := 3) (dLen := 6) (dCap := 6) (sCap := sc) hI3 hlp (fun j hj => ?_) (fun j hj => ?_)
      · rw [← HN.out.1] at hrun
        have HR := Lib.hid hrun
        clear hrun
        go_simp
        rw [HR.out]
        exact hK.out _ rfl
      · rw [(hx4 (3 + j) _ (List.getElem?_eq_getElem (show 3 + j < 15 by omega))).1]
        rfl
      · exact (hx4 (3 + j) _ (List.getElem?_eq_getElem (show 3 + j < 15 by omega))).2
    · have hx5 := py_starts hx4 (l := p.starts) (by rw [← HN.out.1]; exact h6)
      rw [← hE] at hx5
      have hb5 : Below w1.heap.size w1 w5 := by rw [hE]; exact below_setCells _ _ _ _ (HB3.out.trans (hb4.mono HB3.out.size)) (by rw [HTE.out]; exact Nat.le_refl _)
      have HX5 := Lib.hid hx5
      have HB5 := Lib.hid hb5
      have q2 := ((HX1.out.later hb5) 2 _ rfl).1
      clear hE hS hI hb4 hx4 hx5 hb5 HX3
      go_upto_region 5 with fail
      have hS : ∀ wy : World, Below w5.heap.size w5 wy → wy.cell? ⟨w.heap.size, 2, none⟩ = some (.slice fa m fc) := fun wy hy => cell_later hy q2
      clear q2
      (refine wp_flow_n 4 _ [] [] (fun w' w'' => w'' = w'.setCells T 9 (p.failed.map Value.bool)) (.int .i64 m) (by rfl) (by kernel_rfl) (by kernel_rfl) (by kernel_rfl) (by kernel_rfl) ?_); simp only [List.take_succ_cons, List.take_zero]
      repeat (first | ((with_reducible refine Flow.pure hS StayG.nil (v := ?_) ?_ ?_ ?_ ?_); rotate_left 1; (focus kernel_rfl); (focus (intro _; rfl)); (focus (intro β wx hSw; (try dsimp only at hSw); go_simp; (try with_reducible rfl); done)); (try simp only [Act.put, List.setIfInBounds_toArray, List.set_cons_zero, List.set_cons_succ, Nat.reduceAdd])))
      ((with_reducible refine Flow.stop ?_); dsimp only; intro β2 w6 hI6)
      have hb6 := hI6.below
      have hx6 := HX5.out.later hb6
      have hfl : p.failed.length = m := HN.out.2.symm
      refine ⟨rfl, fun K' hK => ?_, fun w7 hE => ?_⟩
      · have hF3 : Bools w6 fa p.failed := HP.out.f.later (HB1.out.trans ((HB5.out.trans (hb6.mono HB5.out.size)).mono HB1.out.size))
        have hrun := run_copy_boolsP (dT := 55) (sT := 55) (ty := 3) Try.underlying55 (B := T) (o := 9) (dLen := 6) (dCap := 6) (sCap := fc) hF3 (by omega) (fun j hj => ?_) (fun j hj => ?_)
        · rw [hfl] at hrun
          have HR := Lib.hid hrun
          clear hrun hfl
          go_simp
          rw [HR.out]
          exact hK.out _ rfl
        · rw [(hx6 (9 + j) _ (List.getElem?_eq_getElem (show 9 + j < 15 by omega))).1]
          rfl
        · exact (hx6 (9 + j) _ (List.getElem?_eq_getElem (show 9 + j < 15 by omega))).2
      · have hx7 := py_failed hx6 (l := p.failed) (by omega)
        rw [← hE] at hx7
        have hb7 : Below w1.heap.size w1 w7 := by rw [hE]; exact below_setCells _ _ _ _ (HB5.out.trans (hb6.mono HB5.out.size)) (by rw [HTE.out]; exact Nat.le_refl _)
        have eV : pc15 t m bu (ig p.starts 0) (ig p.starts 1) (ig p.starts 2) (ig p.starts 3) (ig p.starts 4) (ig p.starts 5) (bg p.failed 0) (bg p.failed 1) (bg p.failed 2) (bg p.failed 3) (bg p.failed 4) (bg p.failed 5) = pyC p.st := by
          unfold pyC
          rw [HT.out.1, HT.out.2, HN.out.1]
          rfl
        rw [eV] at hx7
        have HX7 := Lib.hid hx7
        have HR7 := Lib.hid (HR1.out.later hb7)
        have HB7 := Lib.hid (HB1.out.trans (hb7.mono HB1.out.size))
        clear hE hS hI6 hb6 hx6 hx7 hb7 hfl eV
        obtain ⟨C, hC⟩ : ∃ C, C = pyC p.st := ⟨_, rfl⟩
        have HC := Lib.hid hC
        have hlen : C.length = 15 := by rw [hC]; rfl
        have hone : ∀ u ∈ C, u.oneCell' = true := by rw [hC]; simp [pyC, Value.oneCell']
        rw [← hC] at HX7
        clear hC
        go_wp2_with first | (refine wpList_load_mid rfl 92 _ rfl T 0 rfl C _ (box_range HX7.out) Try.underlying92 rfl (by rw [hlen]; kernel_rfl) ?_) | (refine wpList_store_mid rfl 92 _ _ rfl (w.heap.size + 1) 0 C.toArray rfl rfl (box_there HR7.out (by rw [List.size_toArray, hlen]; rfl)) (by rw [List.size_toArray, hlen]; kernel_rfl) (all_oneCell_toArray hone) ?_)
        have hb8 : Below w.heap.size w (w7.setCells (w.heap.size + 1) 0 C) := below_setCells _ _ _ _ HB7.out (by omega)
        have hr8 : BoxAt (w7.setCells (w.heap.size + 1) 0 C) (w.heap.size + 1) C := HR7.out.stored (by rw [hlen]; rfl)
        refine bodyPost_ret (results_ct (p := ⟨w.heap.size + 1, 0, none⟩) rfl rfl (run_loadVar_mid _ (w.heap.size + 1) 0 92 C _ (box_range hr8) Try.underlying92 rfl (by rw [hlen]; kernel_rfl))) rfl ?_
        refine retB ?_ hb8
        unfold ofV
        rw [if_pos HOK.out, decide_eq_true HOK.out, HC.out]
        rfl
  · have HNO := Lib.hid (show ¬ okP p from by unfold okP; rw [← HN.out.1, ← HN.out.2]; exact hok)
    have k0 := HR1.out 0 _ rfl
    have k1 := HR1.out 1 _ rfl
    have k2 := HR1.out 2 _ rfl
    have k3 := HR1.out 3 _ rfl
    have k4 := HR1.out 4 _ rfl
    have k5 := HR1.out 5 _ rfl
    have k6 := HR1.out 6 _ rfl
    have k7 := HR1.out 7 _ rfl
    have k8 := HR1.out 8 _ rfl
    have k9 := HR1.out 9 _ rfl
    have k10 := HR1.out 10 _ rfl
    have k11 := HR1.out 11 _ rfl
    have k12 := HR1.out 12 _ rfl
    have k13 := HR1.out 13 _ rfl
    have k14 := HR1.out 14 _ rfl
    rcases Nat.lt_or_ge 6 n with h6 | h6
    · have e6 : decide ((6 : Int) < (n : Int)) = true := decide_eq_true (by omega)
      go_wp2_with fail
      have hb8 : Below w.heap.size w (w1.setCells (w.heap.size + 1) 0 pyZ) := below_setCells _ _ _ _ HB1.out (by omega)
      have hr8 : BoxAt (w1.setCells (w.heap.size + 1) 0 pyZ) (w.heap.size + 1) pyZ := HR1.out.stored rfl
      have hw : ∃ w8, w8 = w1.setCells (w.heap.size + 1) 0 pyZ := ⟨_, rfl⟩
      obtain ⟨w8, hw8⟩ := hw
      rw [← hw8] at hb8 hr8
      simp only [World.setCells, Nat.zero_add, Nat.reduceAdd] at hw8
      rw [← hw8]
      refine bodyPost_ret (results_ct (p := ⟨w.heap.size + 1, 0, none⟩) rfl rfl (run_loadVar_mid _ (w.heap.size + 1) 0 92 pyZ _ (box_range hr8) Try.underlying92 rfl (by kernel_rfl))) rfl ?_
      refine retB ?_ hb8
      unfold ofV
      rw [if_neg HNO.out, decide_eq_false HNO.out]
      rfl
    · have e6 : decide ((6 : Int) < (n : Int)) = false := decide_eq_false (by omega)
      have hne : m ≠ n := fun e => hok ⟨h6, e⟩
      have e7 : ((m : Int) == (n : Int)) = false := beq_false_of_ne (by omega)
      have e8 : ¬ ((m : Int) = (n : Int)) := by omega
      go_wp2_with fail
      have hb8 : Below w.heap.size w (w1.setCells (w.heap.size + 1) 0 pyZ) := below_setCells _ _ _ _ HB1.out (by omega)
      have hr8 : BoxAt (w1.setCells (w.heap.size + 1) 0 pyZ) (w.heap.size + 1) pyZ := HR1.out.stored rfl
      have hw : ∃ w8, w8 = w1.setCells (w.heap.size + 1) 0 pyZ := ⟨_, rfl⟩
      obtain ⟨w8, hw8⟩ := hw
      rw [← hw8] at hb8 hr8
      simp only [World.setCells, Nat.zero_add, Nat.reduceAdd] at hw8
      rw [← hw8]
      refine bodyPost_ret (results_ct (p := ⟨w.heap.size + 1, 0, none⟩) rfl rfl (run_loadVar_mid _ (w.heap.size + 1) 0 92 pyZ _ (box_range hr8) Try.underlying92 rfl (by kernel_rfl))) rfl ?_
      refine retB ?_ hb8
      unfold ofV
      rw [if_neg HNO.out, decide_eq_false HNO.out]
      rfl
end Go.Proofs.Ytgccankekflchaa
namespace Go.Proofs.Ytgccankekflchaa
open Go.RowKit Go.Maps

/-- what a plan chooses, by situations -/
noncomputable def choF (plan : List Pos) (v : Value) : Option Value := open Classical in (plan.find? (fun p => decide (okP p ∧ pyV p.st = v))).map (fun p => .int .i64 p.choice)
theorem choF_nil (v : Value) : choF [] v = none := rfl
theorem choF_snoc (plan : List Pos) (p : Pos) (v : Value) : choF (plan ++ [p]) v = open Classical in (choF plan v).or (if okP p ∧ pyV p.st = v then some (.int .i64 p.choice) else none) := by
  classical
  unfold choF
  rw [List.find?_append]
  cases h : plan.find? (fun p => decide (okP p ∧ pyV p.st = v)) with
  | some q => simp
  | none =>
    simp only [Option.none_or, Option.map_none, List.find?_cons, List.find?_nil]
    by_cases hc : okP p ∧ pyV p.st = v
    · rw [if_pos hc, decide_eq_true hc]
      rfl
    · rw [if_neg hc, decide_eq_false hc]
      rfl
theorem choF_put {plan : List Pos} {p : Pos} (h : okP p) (hn : choF plan (pyV p.st) = none) (v : Value) : putF (choF plan) (pyV p.st) (.int .i64 p.choice) v = choF (plan ++ [p]) v := by
  classical
  rw [choF_snoc]
  by_cases e : v = pyV p.st
  · subst e
    rw [putF_at, hn, if_pos ⟨h, rfl⟩]
    rfl
  · rw [putF_ne _ _ e, if_neg (fun hh => e hh.2.symm)]
    simp
theorem choF_keep {plan : List Pos} {p : Pos} (h : okP p → (choF plan (pyV p.st)).isSome = true) (v : Value) : choF plan v = choF (plan ++ [p]) v := by
  classical
  rw [choF_snoc]
  by_cases hc : okP p ∧ pyV p.st = v
  · obtain ⟨h1, rfl⟩ := hc
    obtain ⟨u, hu⟩ := Option.isSome_iff_exists.1 (h h1)
    rw [hu]
    rfl
  · rw [if_neg hc]
    simp
theorem choF_at (plan : List Pos) {s : St} (hs : FitP s) : choF plan (pyV s) = (posAt plan s).map (fun p => .int .i64 p.choice) := by
  classical
  unfold choF posAt
  congr 2
  funext p
  have : (okP p ∧ pyV p.st = pyV s) ↔ p.st = s := by
    constructor
    · rintro ⟨h1, h2⟩
      exact pyV_inj h1 hs h2
    · rintro rfl
      exact ⟨hs, rfl⟩
  simp only [this]
structure LaP (w : World) (a : Option Addr) (l : List PA) : Prop where
  at' : EQ.At w a l
  ps : PsAll w l
theorem LaP.later {w w' : World} {a : Option Addr} {l : List PA} (h : LaP w a l) (hb : Below w.heap.size w w') : LaP w' a l := ⟨h.at'.later hb, h.ps.later hb⟩
def InP (l : List PA) : Prop := ∀ x ∈ l, okP x.1 → InS x.1.st
def RetNp (g : Gm) (sa : Option Addr) (sc : Nat) (da : Option Addr) (dc : Nat) (plan : List Pos) (w : World) (e : Ending) (w' : World) : Prop :=
  ∃ M n, e = .returned (bdV g sa sc da dc M) ∧ w.heap.size ≤ M ∧ MapIs Try.prog 92 w' M n (choF plan) ∧ Below w.heap.size w w'
theorem zeroI (w : World) : (zeroValue 3).run Try.prog w = .ok (.int .i64 0) w := by kernel_rfl
theorem keyZ : ∃ l, keyOf Try.prog 92 (.agg pyZ.toArray) = some l := keyPy _ _ _ _ _ _ (by unfold inIG; omega) (by unfold inIG; omega) (by unfold inIG; omega) (by unfold inIG; omega) (by unfold inIG; omega) (by unfold inIG; omega) (by unfold inIG; omega) (by unfold inIG; omega) (by unfold inIG; omega)
theorem allocN (w : World) (a b d : List Value) (ta tb td : TypeId) (w1 : World) (h : w1 = (((w.alloc (.cells a.toArray ta)).alloc (.cells b.toArray tb)).alloc (.map #[] 0)).alloc (.cells d.toArray td)) :
    Below w.heap.size w w1 ∧ w1.heap.size = w.heap.size + 1 + 1 + 1 + 1 ∧ BoxAt w1 (w.heap.size + 1) b ∧ MapIs Try.prog 92 w1 (w.heap.size + 1 + 1) 0 (fun _ => none) ∧ BoxAt w1 (w.heap.size + 1 + 1 + 1) d := by
  obtain ⟨x, hx⟩ : ∃ x, x = (w.alloc (.cells a.toArray ta)).alloc (.cells b.toArray tb) := ⟨_, rfl⟩
  obtain ⟨y, hy⟩ : ∃ y, y = x.alloc (.map #[] 0) := ⟨_, rfl⟩
  rw [← hx, ← hy] at h
  obtain ⟨p1, p2, _, p3, _⟩ := alloc2t w a b ta tb x hx
  have b1 : Below x.heap.size x y := by rw [hy]; exact (Below.refl _ _).alloc (Nat.le_refl _) _
  have s1 : y.heap.size = x.heap.size + 1 := by rw [hy]; simp
  have m1 : MapIs Try.prog 92 y x.heap.size 0 (fun _ => none) := by rw [hy]; exact MapIs.made _ _ _
  obtain ⟨q1, q2, q3, _⟩ := alloc1 y d td w1 h
  have b2 : Below x.heap.size x w1 := b1.trans (q1.mono (by omega))
  rw [s1, p2] at q2 q3
  rw [p2] at m1
  exact ⟨p1.trans (b2.mono (by omega)), q2, p3.later b2, m1.later q1, q3⟩
set_option maxRecDepth 100000 in
set_option maxHeartbeats 4000000 in
theorem newp_any (g : Gm) (sa da : Option Addr) (sc dc : Nat) (l : List PA) (a : Option Addr) (c : Nat) (w : World) (hL : LaP w a l) (hI : InP l) (hll : l.length ≤ 1000000000) :
    Calls Try.prog 40 #[gmV g sa sc da dc, .slice a l.length c] w (RetNp g sa sc da dc (l.map (·.1)) w) := by
  have HL := Lib.hid hL
  have HI := Lib.hid hI
  have hof := fun (x : PA) (hx : x ∈ l) wy (hy : Below w.heap.size w wy) => of_any x.1 x.2.1 x.2.2.2.1 x.2.2.1 x.2.2.2.2 wy ((hL.later hy).ps x hx)
  have HOF := Lib.hid hof
  obtain ⟨n, hn⟩ : ∃ n, n = g.starts.length := ⟨_, rfl⟩
  obtain ⟨nd, hnd⟩ : ∃ n, n = g.deps.length := ⟨_, rfl⟩
  obtain ⟨bu, hbu⟩ : ∃ n, n = g.budget := ⟨_, rfl⟩
  obtain ⟨ll, hll2⟩ : ∃ n, n = l.length := ⟨_, rfl⟩
  have HN := Lib.hid (And.intro hn (And.intro hnd hbu))
  have HLL := Lib.hid hll2
  unfold gmV
  rw [← hn, ← hnd, ← hbu, ← hll2]
  rw [← hll2] at hll
  clear hL hI hof hn hnd hbu hll2
  have hmm := @run_makeMap Try.prog
  go_enter Try.func40, Try.ntmps40
  go_upto_region 2 with fail
  refine wp_named ?_
  intro w1 hw1
  obtain ⟨hb1, hs1, hr1, hm1, hp1⟩ := allocN w [.slice sa n sc, .slice da nd dc, .int .i64 bu] [.slice none 0 0, .slice none 0 0, .int .i64 0, .map none] [.slice sa n sc, .slice da nd dc, .int .i64 bu, .map (some (w.heap.size + 1 + 1))] _ _ _ w1 hw1
  obtain ⟨M, hM⟩ : ∃ M, M = w.heap.size + 1 + 1 := ⟨_, rfl⟩
  obtain ⟨P, hP⟩ : ∃ P, P = w.heap.size + 1 + 1 + 1 := ⟨_, rfl⟩
  rw [← hP] at hp1 ⊢
  rw [← hM] at hm1 hp1 ⊢
  have HB1 := Lib.hid hb1
  have HR1 := Lib.hid hr1
  have HM1 := Lib.hid hm1
  have HP1 := Lib.hid hp1
  have HNE := Lib.hid (show w.heap.size + 1 ≠ M ∧ P ≠ M ∧ w.heap.size ≤ M ∧ w.heap.size ≤ P ∧ w.heap.size + 1 < w1.heap.size ∧ P < w1.heap.size ∧ M < w1.heap.size from ⟨by omega, by omega, by omega, by omega, by omega, by omega, by omega⟩)
  clear hw1 hb1 hs1 hr1 hm1 hp1 hM hP hmm
  go_wp2_with fail
  go_loopg [17] (ll + 1) (fun gk v17 wr => ∃ (i k : Nat), i ≤ ll ∧ gk + i = ll + 1 ∧ v17 = .int .i64 i ∧ Below w.heap.size w wr ∧ w1.heap.size ≤ wr.heap.size ∧ BoxAt wr (w.heap.size + 1) [.slice none 0 0, .slice none 0 0, .int .i64 0, .map none] ∧ BoxAt wr P [.slice sa n sc, .slice da nd dc, .int .i64 bu, .map (some M)] ∧ MapIs Try.prog 92 wr M k (choF ((l.map (·.1)).take i)))
  case atStart => exact ⟨0, 0, by omega, by omega, rfl, HB1.out, Nat.le_refl _, HR1.out, HP1.out, HM1.out⟩
  case round =>
    obtain ⟨i, k, hi, hgi, rfl, hbr, hsr, hrb, hpb, hmp⟩ := hrel
    obtain ⟨wq, hwq⟩ : ∃ wq, wq = wr := ⟨_, rfl⟩
    subst hwq
    have HBR := Lib.hid hbr
    have HSR := Lib.hid hsr
    have HRB := Lib.hid hrb
    have HPB := Lib.hid hpb
    have HMP := Lib.hid hmp
    by_cases hlt : i < ll
    · have hiL : i < l.length := by have := HLL.out; omega
      have hLq := HL.out.later hbr
      obtain ⟨b, off, rfl, _⟩ := hLq.at'.head (by omega)
      have hrng := hLq.at'.range hiL
      rw [show off + i * EQ.S = off + i * 6 from rfl] at hrng
      have hxm := List.getElem_mem hiL
      have htk : (l.map (·.1)).take (i + 1) = (l.map (·.1)).take i ++ [l[i].1] := by
        rw [take_snoc (by simpa using hiL)]
        simp
      obtain ⟨x, hx⟩ : ∃ x, x = l[i] := ⟨_, rfl⟩
      rw [← hx] at hrng hxm htk
      have hof := HOF.out x hxm
      have hin := HI.out x hxm
      obtain ⟨p, psa, psc, pfa, pfc⟩ := x
      simp only at hof hin htk
      obtain ⟨pn, hpn⟩ : ∃ n, n = p.starts.length := ⟨_, rfl⟩
      obtain ⟨pm, hpm⟩ : ∃ n, n = p.failed.length := ⟨_, rfl⟩
      obtain ⟨pt, hpt⟩ : ∃ n, n = p.turn := ⟨_, rfl⟩
      obtain ⟨pb, hpb2⟩ : ∃ n, n = p.budget := ⟨_, rfl⟩
      obtain ⟨pc, hpc⟩ : ∃ n, n = p.choice := ⟨_, rfl⟩
      obtain ⟨pd, hpd⟩ : ∃ n, n = p.bound := ⟨_, rfl⟩
      have hrng' : wq.rangeAt b (off + i * 6) [.int .i64 pt, .slice psa pn psc, .slice pfa pm pfc, .int .i64 pb, .int .i64 pc, .int .i64 pd] := by rw [hpn, hpm, hpt, hpb2, hpc, hpd]; exact hrng
      simp only [psV, ← hpn, ← hpm, ← hpt, ← hpb2, ← hpc, ← hpd] at hof
      have x0 : wq.cell? ⟨b, off + i * 6, none⟩ = some (.int .i64 pt) := hrng' 0 _ rfl
      have x1 : wq.cell? ⟨b, off + i * 6 + 1, none⟩ = some (.slice psa pn psc) := hrng' 1 _ rfl
      have x2 : wq.cell? ⟨b, off + i * 6 + 2, none⟩ = some (.slice pfa pm pfc) := hrng' 2 _ rfl
      have x3 : wq.cell? ⟨b, off + i * 6 + 3, none⟩ = some (.int .i64 pb) := hrng' 3 _ rfl
      have x4 : wq.cell? ⟨b, off + i * 6 + 4, none⟩ = some (.int .i64 pc) := hrng' 4 _ rfl
      have x5 : wq.cell? ⟨b, off + i * 6 + 5, none⟩ = some (.int .i64 pd) := hrng' 5 _ rfl
      have HOF1 := Lib.hid hof
      have HIN1 := Lib.hid hin
      have HTK := Lib.hid htk
      have HPC := Lib.hid hpc
      have i1 : (i : Int) < (ll : Int) := by omega
      have i0 : (0 : Int) ≤ (i : Int) := by omega
      have HLT := Lib.hid hlt
      clear hof hin htk hrng hrng' hxm hx hpn hpm hpt hpb2 hpc hpd hLq hlt hbr hsr hrb hpb hmp
      go_upto_region 5 with fail
      refine wp_named ?_
      intro w4 hw4
      obtain ⟨hb4, hs4, hx4, -⟩ := alloc1 wq [.int .i64 pt, .slice psa pn psc, .slice pfa pm pfc, .int .i64 pb, .int .i64 pc, .int .i64 pd] _ w4 hw4
      have q0 := (hx4 0 _ rfl).1
      have q1 := (hx4 1 _ rfl).1
      have q2 := (hx4 2 _ rfl).1
      have q3 := (hx4 3 _ rfl).1
      have q4 := (hx4 4 _ rfl).1
      have q5 := (hx4 5 _ rfl).1
      have HB4 := Lib.hid hb4
      have HX4 := Lib.hid hx4
      clear hw4 hb4 hs4 hx4 x0 x1 x2 x3 x4 x5
      go_wp2_with fail
      refine Calls.mono (HOF1.out w4 (HBR.out.trans (HB4.out.mono HBR.out.size))) ?_
      rintro e w5 ⟨rfl, hb5⟩
      obtain ⟨B, hB⟩ : ∃ B, B = decide (okP p) := ⟨_, rfl⟩
      have hCx : ∃ C : List Value, ofV p = .agg C.toArray ∧ C.length = 15 ∧ (∀ u ∈ C, u.oneCell' = true) ∧ (∃ kl, keyOf Try.prog 92 (.agg C.toArray) = some kl) ∧ (okP p → C = pyC p.st) := by
        by_cases hok : okP p
        · exact ⟨pyC p.st, by unfold ofV; rw [if_pos hok], rfl, by simp [pyC, Value.oneCell'], keyPyS hok (HIN1.out hok), fun _ => rfl⟩
        · exact ⟨pyZ, by unfold ofV; rw [if_neg hok], rfl, by simp [Value.oneCell'], keyZ, fun h => absurd h hok⟩
      obtain ⟨C, hC, hlen, hone, ⟨kl, hkl⟩, hCp⟩ := hCx
      rw [hC, ← hB]
      have HBD := Lib.hid hB
      have HKL := Lib.hid hkl
      have HCP := Lib.hid hCp
      have HLEN := Lib.hid hlen
      have HONE := Lib.hid hone
      have hbq5 := HB4.out.trans (hb5.mono HB4.out.size)
      have hx5 := HX4.out.later hb5
      have HX5 := Lib.hid hx5
      have HBQ5 := Lib.hid hbq5
      clear hB hC hlen hone hkl hCp q0 q1 q2 q3 q4 q5 hb5 hbq5 hx5
      have HZB := Lib.hid (show BoxAt (w5.alloc (.cells pyZ.toArray 92)) w5.heap.size pyZ from BoxAt.new _ _ _)
      go_upto_region 6 with (refine wpList_store_mid rfl 92 _ _ rfl w5.heap.size 0 C.toArray rfl rfl (box_there HZB.out (by rw [List.size_toArray, HLEN.out]; rfl)) (by rw [List.size_toArray, HLEN.out]; kernel_rfl) (all_oneCell_toArray HONE.out) ?_)
      refine wp_named ?_
      intro w6 hw6
      have hb6 : Below w5.heap.size w5 w6 := by rw [hw6]; exact below_setCells _ _ _ _ ((Below.refl _ _).alloc (Nat.le_refl _) _) (Nat.le_refl _)
      have hx6 : BoxAt w6 w5.heap.size C := by rw [hw6]; exact HZB.out.stored (by rw [HLEN.out]; rfl)
      have hbq6 := HBQ5.out.trans (hb6.mono HBQ5.out.size)
      have HBQ6 := Lib.hid hbq6
      have HX6 := Lib.hid hx6
      have HM6 := Lib.hid (HMP.out.later hbq6)
      have HP6 := Lib.hid (HPB.out.later hbq6)
      have HR6 := Lib.hid (HRB.out.later hbq6)
      have HQ6 := Lib.hid (HX5.out.later hb6)
      have HBE6 := Lib.hid (HBR.out.trans (hbq6.mono HBR.out.size))
      have HSZ6 := Lib.hid (show w1.heap.size ≤ w6.heap.size ∧ M < w5.heap.size ∧ P < w5.heap.size ∧ w.heap.size + 1 < w5.heap.size from ⟨Nat.le_trans HSR.out hbq6.size, by have h1 := HNE.out; have h2 := HSR.out; have h3 := HBQ5.out.size; omega, by have h1 := HNE.out; have h2 := HSR.out; have h3 := HBQ5.out.size; omega, by have h1 := HNE.out; have h2 := HSR.out; have h3 := HBQ5.out.size; omega⟩)
      have p3 := (HP6.out 3 _ rfl).1
      clear hw6 hb6 hx6 hbq6
      obtain ⟨f, hf⟩ : ∃ f, f = choF ((l.map (·.1)).take i) := ⟨_, rfl⟩
      rw [← hf] at HM6
      have HF := Lib.hid hf
      clear hf
      cases hfx : f (.agg C.toArray) with
      | none =>
        go_upto_region 7 with first | (refine wpList_load_mid rfl 92 _ rfl w5.heap.size 0 rfl C _ (box_range HX6.out) Try.underlying92 rfl (by rw [HLEN.out]; kernel_rfl) ?_) | (at_lookup; refine wpList_look_ok rfl _ _ _ rfl 92 3 lawPy Try.underlying87 (.int .i64 0) zeroI M k f rfl HM6.out (.agg C.toArray) kl rfl HKL.out ?_; rw [hfx]; dsimp only [Option.getD, Option.isSome])
        have HFX := Lib.hid hfx
        clear hfx
        cases B
        · have HKP := Lib.hid (show ∀ v, f v = choF ((l.map (·.1)).take (i + 1)) v from fun v => by
            rw [HF.out, HTK.out]
            exact choF_keep (fun hok => by have h := HBD.out; rw [decide_eq_true hok] at h; cases h) v)
          clear p3
          go_wp2_with fail
          go_roundg (ll - i)
          case measure => have := HLT.out; omega
          case rel => exact ⟨i + 1, k, HLT.out, by have := HLT.out; omega, by go_num, HBE6.out, HSZ6.out.1, HR6.out, HP6.out, HM6.out.congr HKP.out⟩
        · have HPU := Lib.hid (show ∀ v, putF f (.agg C.toArray) (.int .i64 pc) v = choF ((l.map (·.1)).take (i + 1)) v from fun v => by
            have hok : okP p := of_decide_eq_true HBD.out.symm
            have e : Value.agg C.toArray = pyV p.st := by rw [HCP.out hok]
            rw [HF.out, HTK.out, e, HPC.out]
            exact choF_put hok (by rw [← HF.out, ← e]; exact HFX.out) v)
          have q4 := (HQ6.out 4 _ rfl).1
          go_upto_region 9 with first | (refine wpList_load_mid rfl 92 _ rfl w5.heap.size 0 rfl C _ (box_range HX6.out) Try.underlying92 rfl (by rw [HLEN.out]; kernel_rfl) ?_) | (at_mapUpdate; refine wpList_put rfl _ _ _ _ rfl 92 3 lawPy Try.underlying87 M k f rfl HM6.out (.agg C.toArray) (.int .i64 pc) kl rfl rfl HKL.out ?_; intro w7 hm7 hg7 hs7)
          have hc7 : Chg (fun k => k = M) w6 w7 := (Chg.refl _ _).grown hg7 (fun k e _ => by cases e; rfl)
          have hs6 := HSZ6.out
          have HM7 := Lib.hid (hm7.congr HPU.out)
          have HP7 := Lib.hid (HP6.out.chg hc7 HNE.out.2.1 HP6.out.lt)
          have HR7 := Lib.hid (HR6.out.chg hc7 HNE.out.1 HR6.out.lt)
          have HB7 := Lib.hid (HBE6.out.trans (hc7.below HBE6.out.size fun k e => by rw [e]; exact HNE.out.2.2.1))
          have HS7 := Lib.hid (show w1.heap.size ≤ w7.heap.size from by rw [hs7]; exact hs6.1)
          clear hm7 hg7 hs7 hc7 p3 q4 hs6
          go_wp2_with fail
          go_roundg (ll - i)
          case measure => have := HLT.out; omega
          case rel => exact ⟨i + 1, k + 1, HLT.out, by have := HLT.out; omega, by go_num, HB7.out, HS7.out, HR7.out, HP7.out, HM7.out⟩
      | some u =>
        go_upto_region 7 with first | (refine wpList_load_mid rfl 92 _ rfl w5.heap.size 0 rfl C _ (box_range HX6.out) Try.underlying92 rfl (by rw [HLEN.out]; kernel_rfl) ?_) | (at_lookup; refine wpList_look_ok rfl _ _ _ rfl 92 3 lawPy Try.underlying87 (.int .i64 0) zeroI M k f rfl HM6.out (.agg C.toArray) kl rfl HKL.out ?_; rw [hfx]; dsimp only [Option.getD, Option.isSome])
        have HFX := Lib.hid hfx
        clear hfx p3
        have HKP := Lib.hid (show ∀ v, f v = choF ((l.map (·.1)).take (i + 1)) v from fun v => by
          rw [HF.out, HTK.out]
          refine choF_keep (fun hok => ?_) v
          rw [← HF.out, show pyV p.st = .agg C.toArray by rw [HCP.out hok], HFX.out]
          rfl)
        cases B
        · skip
          go_wp2_with fail
          go_roundg (ll - i)
          case measure => have := HLT.out; omega
          case rel => exact ⟨i + 1, k, HLT.out, by have := HLT.out; omega, by go_num, HBE6.out, HSZ6.out.1, HR6.out, HP6.out, HM6.out.congr HKP.out⟩
        · skip
          go_wp2_with fail
          go_roundg (ll - i)
          case measure => have := HLT.out; omega
          case rel => exact ⟨i + 1, k, HLT.out, by have := HLT.out; omega, by go_num, HBE6.out, HSZ6.out.1, HR6.out, HP6.out, HM6.out.congr HKP.out⟩
    · obtain rfl : ll = i := by omega
      have r0 := HRB.out 0 _ rfl
      have r1 := HRB.out 1 _ rfl
      have r2 := HRB.out 2 _ rfl
      have r3 := HRB.out 3 _ rfl
      have p0 := (HPB.out 0 _ rfl).1
      have p1 := (HPB.out 1 _ rfl).1
      have p2 := (HPB.out 2 _ rfl).1
      have p3 := (HPB.out 3 _ rfl).1
      clear hlt hi hgi hbr hsr hrb hpb hmp
      go_wp2_with fail
      obtain ⟨w9, hw9⟩ : ∃ w9, w9 = wq.setCells (w.heap.size + 1) 0 [.slice sa n sc, .slice da nd dc, .int .i64 bu, .map (some M)] := ⟨_, rfl⟩
      have hb9 : Below w.heap.size w w9 := by rw [hw9]; exact below_setCells _ _ _ _ HBR.out (by omega)
      have hr9 : BoxAt w9 (w.heap.size + 1) [.slice sa n sc, .slice da nd dc, .int .i64 bu, .map (some M)] := by rw [hw9]; exact HRB.out.stored rfl
      have hm9 : MapIs Try.prog 92 w9 M k (choF (l.map (·.1))) := by
        rw [hw9]
        have h := HMP.out.block (w' := wq.setCells (w.heap.size + 1) 0 [.slice sa n sc, .slice da nd dc, .int .i64 bu, .map (some M)]) ((chg_setCells (S := fun k => k = w.heap.size + 1) (Chg.refl _ _) _ _ _ (fun _ => rfl)).block M HMP.out.lt (fun e => HNE.out.1 e.symm))
        rwa [List.take_of_length_le (by rw [List.length_map, HLL.out]; exact Nat.le_refl _)] at h
      simp only [World.setCells, Nat.zero_add, Nat.reduceAdd] at hw9
      rw [← hw9]
      have q0 := (hr9 0 _ rfl).1
      have q1 := (hr9 1 _ rfl).1
      have q2 := (hr9 2 _ rfl).1
      have q3 := (hr9 3 _ rfl).1
      refine bodyPost_ret (v := .agg #[.slice sa n sc, .slice da nd dc, .int .i64 bu, .map (some M)]) (by simp [results, go_sem, q0, q1, q2, q3]) rfl ?_
      exact ⟨M, k, by unfold bdV; rw [← HN.out.1, ← HN.out.2.1, ← HN.out.2.2], HNE.out.2.2.1, hm9, hb9⟩
end Go.Proofs.Ytgccankekflchaa
namespace Go.Proofs.Ytgccankekflchaa
open Go.RowKit Go.Maps

theorem info_boolP : (Try.prog.info? 4).map (fun i => (i.zero, i.size, i.bytes)) = some (some (.bool false), 1, 1) := by kernel_rfl
theorem mk_boolsP (n : Nat) (hn : n ≤ 1000000) (w : World) : (Instr.makeSlice 55 (.int .i64 n) (.int .i64 n)).run Try.prog w = .ok (.slice (some ⟨w.heap.size, 0, none⟩) n n) (w.alloc (.cells (List.replicate n (Value.bool false)).toArray 4)) := by
  obtain ⟨i0, hi, hz0, hz1, hz2⟩ := infoParts info_boolP
  have hr := run_make (P := Try.prog) w 55 4 i0 (.bool false) Try.underlying55 hi hz0 .i64 .i64 n n (by omega) (Int.le_refl _) (by rw [hz2]; omega) (by omega)
  simp only [Int.toNat_natCast] at hr
  rw [hr]
  have e : madeCells (Value.cells (.bool false)) (n * i0.size) = (List.replicate n (Value.bool false)).toArray := by
    rw [hz1, Nat.mul_one]
    apply Array.toList_inj.1
    exact toList_madeCells_one _ _
  rw [e]
def posB1 (g : Gm) : Pos := ⟨0, g.starts, List.replicate g.starts.length false, g.budget, 0, 0⟩
theorem begin_fit {g : Gm} (hv : VG g) : okP (posB1 g) := ⟨hv.1, List.length_replicate⟩
set_option maxRecDepth 100000 in
set_option maxHeartbeats 4000000 in
theorem begin_any (g : Gm) (sa da : Option Addr) (sc dc M : Nat) (w : World) (hG : GmAt w g sa da) (hv : VG g) : Calls Try.prog 41 #[bdV g sa sc da dc M] w (RetB (pyV (beginS g)) w) := by
  have HG := Lib.hid hG
  obtain ⟨n, hn⟩ : ∃ n, n = g.starts.length := ⟨_, rfl⟩
  obtain ⟨nd, hnd⟩ : ∃ n, n = g.deps.length := ⟨_, rfl⟩
  obtain ⟨bu, hbu⟩ : ∃ n, n = g.budget := ⟨_, rfl⟩
  have hn6 : n ≤ 6 := by rw [hn]; exact hv.1
  have hmk := mk_boolsP n (by omega)
  obtain ⟨C, hC⟩ : ∃ C, C = pyC (beginS g) := ⟨_, rfl⟩
  have hofb := fun wy F (hy : Below w.heap.size w wy) (hb : BoxAt wy F (List.replicate n (Value.bool false))) => of_any (posB1 g) sa (some ⟨F, 0, none⟩) sc n wy (⟨(hG.later hy).s, fun i hi => ⟨F, 0, rfl, by
    have hi' : i < n := by have h : i < (List.replicate g.starts.length false).length := hi; rw [List.length_replicate] at h; omega
    rw [Nat.zero_add, (hb i (Value.bool false) (by rw [List.getElem?_replicate, if_pos hi'])).1, bg_lt hi]
    simp [posB1]⟩⟩)
  have e1 : ofV (posB1 g) = .agg C.toArray := by unfold ofV; rw [if_pos (begin_fit hv), hC]; rfl
  have e2 : (posB1 g).starts.length = n := hn.symm
  have e3 : (posB1 g).failed.length = n := by rw [hn]; exact List.length_replicate
  have e4 : (posB1 g).budget = bu := hbu.symm
  simp only [e1, decide_eq_true (begin_fit hv), psV, e2, e3, e4, show (posB1 g).turn = 0 from rfl, show (posB1 g).choice = 0 from rfl, show (posB1 g).bound = 0 from rfl] at hofb
  have HOF := Lib.hid hofb
  have HLEN := Lib.hid (show C.length = 15 by rw [hC]; rfl)
  have HONE := Lib.hid (show ∀ u ∈ C, u.oneCell' = true by rw [hC]; simp [pyC, Value.oneCell'])
  unfold bdV pyV
  rw [← hn, ← hnd, ← hbu, ← hC]
  clear hG hv hn hnd hbu hC hofb e1 e2 e3 e4
  go_enter Try.func41, Try.ntmps41
  go_upto_region 1 with fail
  refine wp_named ?_
  intro w1 hw1
  obtain ⟨hb1, hs1, ⟨hx1, _⟩, hr1, _⟩ := alloc2t w [.slice sa n sc, .slice da nd dc, .int .i64 bu, .map (some M)] pyZ _ _ w1 hw1
  have HB1 := Lib.hid hb1
  have HS1 := Lib.hid hs1
  have HR1 := Lib.hid hr1
  have b0 := (hx1 0 _ rfl).1
  have b2 := (hx1 2 _ rfl).1
  clear hw1 hb1 hs1 hx1 hr1
  refine wp_flow_j (fun β L' w' => Below w1.heap.size w1 w' ∧ (L' 7 = true → L' 12 = false → ∃ F, β 7 = .slice (some ⟨F, 0, none⟩) n n ∧ BoxAt w' F (List.replicate n (Value.bool false))) ∧ (L' 16 = true → ∃ T, β 16 = .pointer (some ⟨T, 0, none⟩) ∧ w1.heap.size ≤ T ∧ T < w'.heap.size ∧ BoxAt w' T (if L' 17 then C else pyZ))) (by kernel_rfl) (by kernel_rfl) ?h0 ?_
  case h0 => exact ⟨(Below.refl _ _).drew, fun e => (by cases e), fun e => (by cases e)⟩
  iterate 7 (((with_reducible refine FlowJ.pure (v := ?_) ?_ ?_ ?_ ?_); rotate_left 1; (focus (intro _; rfl)); (focus (intro β L' w' hJ hat; (try dsimp only at hJ); (try dsimp only); simpa only [setL, Nat.reduceEqDiff, if_false] using hJ)); (focus (intro β L' w' hJ hat; (try dsimp only at hJ); (have y0 := cell_later hJ.1 b0); go_simp; (try with_reducible rfl); done)); (try simp only [Act.put, List.setIfInBounds_toArray, List.set_cons_zero, List.set_cons_succ, Nat.reduceAdd])))
  ((with_reducible refine FlowJ.ghost ?_ ?_ ?_); (focus (intro _; rfl)); (focus (intro β L' w' hJ hat K' hK; (try dsimp only at hJ); ((have n12 := hat.not (j := 12) (by kernel_rfl)); have un := hat.un; simp only [un, n12] at hJ; go_simp; refine hK.out _ _ ?_; simp only [updG, setL, Nat.reduceEqDiff, if_true, if_false, n12]; exact ⟨hJ.1.alloc hJ.1.size _, fun _ _ => ⟨_, rfl, BoxAt.new _ _ _⟩, fun e => by obtain ⟨T, h1, h2, h3, h4⟩ := hJ.2.2 e; exact ⟨T, h1, h2, by rw [World.size_alloc]; omega, h4.alloc _⟩⟩))); (try simp only [Act.put, List.setIfInBounds_toArray, List.set_cons_zero, List.set_cons_succ, Nat.reduceAdd]))
  iterate 3 (((with_reducible refine FlowJ.pure (v := ?_) ?_ ?_ ?_ ?_); rotate_left 1; (focus (intro _; rfl)); (focus (intro β L' w' hJ hat; (try dsimp only at hJ); (try dsimp only); simpa only [setL, Nat.reduceEqDiff, if_false] using hJ)); (focus (intro β L' w' hJ hat; (try dsimp only at hJ); (have y0 := cell_later hJ.1 b2); go_simp; (try with_reducible rfl); done)); (try simp only [Act.put, List.setIfInBounds_toArray, List.set_cons_zero, List.set_cons_succ, Nat.reduceAdd])))
  refine FlowJ.pureG (v := fun β => .agg #[.int .i64 0, .slice sa n sc, β 7, .int .i64 bu, .int .i64 0, .int .i64 0]) (fun β k b hk => ?_) (fun β b => rfl) (fun _ => rfl) (fun β L' w' hJ hat => by simpa only [setL, Nat.reduceEqDiff, if_false] using hJ) (fun β L' w' hJ hat => ?_) ?_
  · have : updG β k b 7 = β 7 := updG_ne β b fun e => by subst e; exact Bool.false_ne_true (hk.symm.trans (by kernel_rfl))
    simp only [this]
  · have p7 := hat.pre 7 (by kernel_rfl)
    (have n12 := hat.not (j := 12) (by kernel_rfl))
    obtain ⟨F, e7, _⟩ := hJ.2.1 p7 n12
    rw [e7]
    clear hJ
    go_simp
    (try with_reducible rfl); done
  (try simp only [Act.put, List.setIfInBounds_toArray, List.set_cons_zero, List.set_cons_succ, Nat.reduceAdd])
  ((with_reducible refine FlowJ.call (v := ?_) ?_ ?_ ?_); rotate_left 1; (focus (intro _; rfl)); (focus (intro β L' w' hJ hat K' hK; (try dsimp only at hJ); ((have p11 := hat.pre 11 (by kernel_rfl)); have p7 := hat.down 11 7 p11 (by decide) (by kernel_rfl); have un := hat.un; obtain ⟨F, e7, hb⟩ := hJ.2.1 p7 un; rw [e7]; go_simp; go_at_call 57; refine Calls.mono (HOF.out w' F (HB1.out.trans (hJ.1.mono HB1.out.size)) hb) ?_; rintro e w'' ⟨rfl, hc⟩; rw [← e7]; refine hK.out _ ?_; simp only [setL, Nat.reduceEqDiff, if_true, if_false]; exact ⟨hJ.1.trans (hc.mono hJ.1.size), fun _ e => (by cases e), fun e => by obtain ⟨T, h1, h2, h3, h4⟩ := hJ.2.2 e; exact ⟨T, h1, h2, Nat.lt_of_lt_of_le h3 hc.size, h4.later hc⟩⟩))); (try simp only [Act.put, List.setIfInBounds_toArray, List.set_cons_zero, List.set_cons_succ, Nat.reduceAdd]))
  iterate 3 (((with_reducible refine FlowJ.pure (v := ?_) ?_ ?_ ?_ ?_); rotate_left 1; (focus (intro _; rfl)); (focus (intro β L' w' hJ hat; (try dsimp only at hJ); (try dsimp only); simpa only [setL, Nat.reduceEqDiff, if_false] using hJ)); (focus (intro β L' w' hJ hat; (try dsimp only at hJ); skip; go_simp; (try with_reducible rfl); done)); (try simp only [Act.put, List.setIfInBounds_toArray, List.set_cons_zero, List.set_cons_succ, Nat.reduceAdd])))
  ((with_reducible refine FlowJ.ghost ?_ ?_ ?_); (focus (intro _; rfl)); (focus (intro β L' w' hJ hat K' hK; (try dsimp only at hJ); ((have n17 := hat.not (j := 17) (by kernel_rfl)); have un := hat.un; simp only [un, n17] at hJ; go_simp; refine hK.out _ _ ?_; simp only [updG, setL, Nat.reduceEqDiff, if_true, if_false, n17]; exact ⟨hJ.1.alloc hJ.1.size _, fun e e' => by obtain ⟨F, h1, h2⟩ := hJ.2.1 e e'; exact ⟨F, h1, h2.alloc _⟩, fun _ => ⟨_, rfl, hJ.1.size, by rw [World.size_alloc]; omega, BoxAt.new _ pyZ _⟩⟩))); (try simp only [Act.put, List.setIfInBounds_toArray, List.set_cons_zero, List.set_cons_succ, Nat.reduceAdd]))
  ((with_reducible refine FlowJ.eff ?_ ?_ ?_); (focus (intro _; rfl)); (focus (intro β L' w' hJ hat K' hK; (try dsimp only at hJ); ((have p16 := hat.pre 16 (by kernel_rfl)); (have p14 := hat.pre 14 (by kernel_rfl)); have p13 := hat.down 14 13 p14 (by decide) (by kernel_rfl); have p12 := hat.down 13 12 p13 (by decide) (by kernel_rfl); have un := hat.un; simp only [un, p12, p16] at hJ; obtain ⟨T, e16, h2, h3, h4⟩ := hJ.2.2 trivial; simp only [Bool.false_eq_true, if_false] at h4; rw [e16]; refine wp_store_mid 92 _ _ rfl T 0 C.toArray rfl rfl (box_there h4 (by rw [List.size_toArray, HLEN.out]; rfl)) (by rw [List.size_toArray, HLEN.out]; kernel_rfl) (all_oneCell_toArray HONE.out) ?_; rw [← e16]; refine hK.out _ ?_; simp only [setL, Nat.reduceEqDiff, if_true, if_false, p12, p16]; exact ⟨below_setCells _ _ _ _ hJ.1 h2, fun _ e => (by cases e), fun _ => ⟨T, e16, h2, by rw [setCells_heap]; exact h3, h4.stored (by rw [HLEN.out]; rfl)⟩⟩))); (try simp only [Act.put, Nat.reduceAdd]))
  ((with_reducible refine FlowJ.pure (v := ?_) ?_ ?_ ?_ ?_); rotate_left 1; (focus (intro _; rfl)); (focus (intro β L' w' hJ hat; (try dsimp only at hJ); (try dsimp only); simpa only [setL, Nat.reduceEqDiff, if_false] using hJ)); (focus (intro β L' w' hJ hat; (try dsimp only at hJ); skip; go_simp; (try with_reducible rfl); done)); (try simp only [Act.put, List.setIfInBounds_toArray, List.set_cons_zero, List.set_cons_succ, Nat.reduceAdd]))
  refine FlowJ.stop ?_
  dsimp only
  intro β w4 hJ
  obtain ⟨T, e16, h2, h3, h4⟩ := hJ.2.2 trivial
  simp only [if_true] at h4
  rw [e16]
  have HB4 := Lib.hid (HB1.out.trans (hJ.1.mono HB1.out.size))
  have HT4 := Lib.hid h4
  have HR4 := Lib.hid (HR1.out.later hJ.1)
  clear hJ e16 h2 h3 h4 b0 b2 hmk
  go_wp2_with first | (refine wpList_load_mid rfl 92 _ rfl T 0 rfl C _ (box_range HT4.out) Try.underlying92 rfl (by rw [HLEN.out]; kernel_rfl) ?_) | (refine wpList_store_mid rfl 92 _ _ rfl (w.heap.size + 1) 0 C.toArray rfl rfl (box_there HR4.out (by rw [List.size_toArray, HLEN.out]; rfl)) (by rw [List.size_toArray, HLEN.out]; kernel_rfl) (all_oneCell_toArray HONE.out) ?_)
  have hb8 : Below w.heap.size w (w4.setCells (w.heap.size + 1) 0 C) := below_setCells _ _ _ _ HB4.out (by omega)
  have hr8 : BoxAt (w4.setCells (w.heap.size + 1) 0 C) (w.heap.size + 1) C := HR4.out.stored (by rw [HLEN.out]; rfl)
  refine bodyPost_ret (results_cell (p := ⟨w.heap.size + 1, 0, none⟩) rfl rfl (run_loadVar_mid _ (w.heap.size + 1) 0 92 C _ (box_range hr8) Try.underlying92 rfl (by rw [HLEN.out]; kernel_rfl))) rfl ?_
  exact retB rfl hb8
end Go.Proofs.Ytgccankekflchaa
namespace Go.Proofs.Ytgccankekflchaa
open Go.RowKit Go.Maps

set_option maxRecDepth 100000 in
theorem stuck_pan (p : Addr) (x : Int) (n : Int) (older : List PanicEntry) (w : World) (hc : w.cell? p = some (.int .i64 x)) (hz : w.frozen? p = false) :
    CallsD Try.prog 39 #[.pointer (some p)] (.panicking ({ v := .iface 29 (.int .i64 n), recovered := false } :: older)) w fun e u' w' =>
      e = .returned (.tuple #[]) ∧ u' = .panicking ({ v := .iface 29 (.int .i64 n), recovered := true } :: older) ∧ w' = w.setCell p (.int .i64 n) := by
  refine callsD_of_wpS Try.func39 rfl fun c₀ cs hu => ?_
  simp only [show Try.f39.ntmps = 14 from by kernel_rfl]
  simp only [List.size_toArray, List.length_cons, List.length_nil, Nat.reduceAdd, Nat.reduceSub, Array.replicate_succ, Array.replicate_zero, List.push_toArray, List.append_toArray, List.nil_append, List.cons_append]
  apply wpS_seq
  apply wpS_region
  simp [wpOpsS, go_sem, recoverD, hu, Exit.thenS]
  refine wpS_of_wp ?_
  have hta : ∀ w, (Instr.typeAssert (.iface 29 (.int .i64 n)) 20 29 true).run Try.prog w = .ok (.tuple #[.int .i64 n, .bool true]) w := fun w => by rfl
  go_wp2_with fail
  exact ⟨rfl, _, rfl, _, by simp [results, Try.f39, go_sem], rfl, rfl, rfl⟩
theorem stuck_ret (p : Addr) (w : World) :
    CallsD Try.prog 39 #[.pointer (some p)] .returning w fun e u' w' => e = .returned (.tuple #[]) ∧ u' = .returning ∧ w' = w := by
  refine callsD_of_wpS Try.func39 rfl fun c₀ cs hu => ?_
  simp only [show Try.f39.ntmps = 14 from by kernel_rfl]
  simp only [List.size_toArray, List.length_cons, List.length_nil, Nat.reduceAdd, Nat.reduceSub, Array.replicate_succ, Array.replicate_zero, List.push_toArray, List.append_toArray, List.nil_append, List.cons_append]
  apply wpS_seq
  apply wpS_region
  simp [wpOpsS, go_sem, recoverD, hu, Exit.thenS]
  refine wpS_of_wp ?_
  go_wp2_with fail
  refine ⟨rfl, .returning, ?_, _, by simp [results, Try.f39, go_sem], rfl, rfl, rfl⟩
  cases c₀
  simp_all
set_option maxRecDepth 100000 in
theorem lost1_err (pe pl : Addr) (n x : Int) (u : FrameMode) (w : World) (he : w.cell? pe = some (.int .i64 n)) (hn : n ≠ 0) (hc : w.cell? pl = some (.int .i64 x)) (hz : w.frozen? pl = false) :
    CallsD Try.prog 38 #[.pointer (some pe), .pointer (some pl)] u w fun e u' w' => u' = u ∧ (e = .returned (.tuple #[]) ∧ w' = w.setCell pl (.int .i64 0)) := by
  have h1 : (n == (0 : Int)) = false := by simpa using hn
  go_enter_d Try.func38, Try.ntmps38
  go_wp2_with fail
  go_end0
  exact ⟨rfl, rfl⟩
set_option maxRecDepth 100000 in
theorem lost1_ok (pe pl : Addr) (u : FrameMode) (w : World) (he : w.cell? pe = some (.int .i64 0)) :
    CallsD Try.prog 38 #[.pointer (some pe), .pointer (some pl)] u w fun e u' w' => u' = u ∧ (e = .returned (.tuple #[]) ∧ w' = w) := by
  go_enter_d Try.func38, Try.ntmps38
  go_wp2_with fail
  go_end0
  exact ⟨rfl, rfl⟩
end Go.Proofs.Ytgccankekflchaa
