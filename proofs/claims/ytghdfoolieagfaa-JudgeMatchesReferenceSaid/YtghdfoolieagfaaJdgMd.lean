


/- The reference: Made. -/
import Derived.Test.YtghdfoolieagfaaJdgAft
import Derived.Test.YtghdfoolieagfaaJdgVal
import Derived.Test.YtghdfoolieagfaaElJ
namespace Go.Proofs.Ytghdfoolieagfaa
open Go.RowKit

def IsTy (w : World) (b : Nat) (T : TypeId) : Prop := ∃ cur, w.heap[b]? = some (.cells cur T (0, 0))
theorem IsTy.block {w w' : World} {b : Nat} {T : TypeId} (h : IsTy w b T) (e : w'.heap[b]? = w.heap[b]?) : IsTy w' b T := by
  obtain ⟨cur, hc⟩ := h
  exact ⟨cur, e.trans hc⟩
theorem IsTy.setCell {w : World} {b : Nat} {T : TypeId} (h : IsTy w b T) (n o : Nat) (u : Value) : IsTy (w.setCell ⟨n, o, none⟩ u) b T := by
  obtain ⟨cur, hc⟩ := h
  by_cases e : b = n
  · subst e
    exact ⟨_, heap_setCell_same w b o cur T u hc⟩
  · exact ⟨cur, (heap_setCell_other w ⟨n, o, none⟩ b u e).trans hc⟩
theorem IsTy.lt {w : World} {b : Nat} {T : TypeId} (h : IsTy w b T) : b < w.heap.size := by
  obtain ⟨cur, hc⟩ := h
  exact (Array.getElem?_eq_some_iff.1 hc).1
theorem IsTy.ne {w : World} {b c : Nat} {T U : TypeId} (h : IsTy w b T) (k : IsTy w c U) (hne : T ≠ U) : b ≠ c := by
  rintro rfl
  obtain ⟨cur, hc⟩ := h
  obtain ⟨cur', hc'⟩ := k
  rw [hc] at hc'
  cases hc'
  exact hne rfl
theorem El.Own.ty {α : Type} {E : El α} {w : World} {B : Nat} {v : Value} {l : List α} (h : E.Own w B v l) {g : Nat} (hg : v.ownBlock = some g) : IsTy w g E.T := by
  rcases h.2 with ⟨rfl, _⟩ | ⟨g', cap, cur, rfl, _, hh, _⟩
  · cases hg
  · cases hg
    exact ⟨cur, hh⟩
theorem BoxAt.block {w w' : World} {n : Nat} {cs : List Value} (h : BoxAt w n cs) (e : w'.heap[n]? = w.heap[n]?) : BoxAt w' n cs := fun o v ho =>
  ⟨(World.cell?_of_block (w := w) (a := ⟨n, o, none⟩) e).trans (h o v ho).1, (World.frozen?_of_block (w := w) (a := ⟨n, o, none⟩) e).trans (h o v ho).2⟩
theorem El.Own.block {α : Type} {E : El α} {w w' : World} {B : Nat} {v : Value} {l : List α} (h : E.Own w B v l) (e : ∀ g, v.ownBlock = some g → w'.heap[g]? = w.heap[g]?) : E.Own w' B v l := by
  refine ⟨h.1, ?_⟩
  rcases h.2 with hn | ⟨g, cap, cur, rfl, hb, hg, rest⟩
  · exact .inl hn
  · exact .inr ⟨g, cap, cur, rfl, hb, (e g rfl).trans hg, rest⟩
theorem El.at_lit' {α : Type} (E : El α) (w : World) (l : List α) (cs : Array Value) (T : TypeId) (hc : cs = (l.flatMap E.cf).toArray) : E.At (w.alloc (.cells cs T)) (some ⟨w.heap.size, 0, none⟩) l := fun j u hu => by
  subst hc
  refine ⟨w.heap.size, 0, rfl, ?_⟩
  rw [Nat.zero_add]
  exact (BoxAt.new w (l.flatMap E.cf) T j u hu).1
theorem El.one_at {α : Type} {E : El α} {w : World} {n : Nat} {x : α} (h : BoxAt w n (E.cf x)) : E.At w (some ⟨n, 0, none⟩) [x] := fun j u hu => by
  refine ⟨n, 0, rfl, ?_⟩
  rw [Nat.zero_add]
  exact (h j u (by simpa using hu)).1
theorem El.Own.shape {α : Type} {E : El α} {w : World} {B : Nat} {v : Value} {l : List α} (h : E.Own w B v l) : ∃ oa n c, v = .slice oa n c := by
  obtain ⟨a, c, e, _⟩ := h.at
  exact ⟨a, l.length, c, e⟩
theorem El.Own.lt {α : Type} {E : El α} {w : World} {B : Nat} {v : Value} {l : List α} (h : E.Own w B v l) : ∀ b, v.ownBlock = some b → B ≤ b ∧ b < w.heap.size := World.ownsRow.lt h
theorem El.Own.mono {α : Type} {E : El α} {w : World} {B B' : Nat} {v : Value} {l : List α} (h : E.Own w B v l) (hB : B' ≤ B) : E.Own w B' v l := by
  refine ⟨h.1, ?_⟩
  rcases h.2 with hn | ⟨g, cap, cur, rfl, hb, rest⟩
  · exact .inl hn
  · exact .inr ⟨g, cap, cur, rfl, Nat.le_trans hB hb, rest⟩
theorem BoxAt.put {w : World} {n : Nat} {cs : List Value} (h : BoxAt w n cs) (o : Nat) (u : Value) (ho : o < cs.length) : BoxAt (w.setCell ⟨n, o, none⟩ u) n (cs.set o u) := fun j v hv => by
  rw [List.getElem?_set] at hv
  refine ⟨?_, ?_⟩
  · split at hv
    · rename_i e
      subst e
      simp only [Option.some.injEq] at hv
      subst hv
      exact World.cell?_setCell_same _ _ _ (h o _ (List.getElem?_eq_getElem ho)).1
    · rename_i e
      rw [World.cell?_setCell_other _ _ _ _ (by intro e2; exact e (congrArg Addr.off e2))]
      exact (h j v hv).1
  · rw [World.frozen?_setCell]
    split at hv
    · rename_i e
      subst e
      exact (h o _ (List.getElem?_eq_getElem ho)).2
    · exact (h j v hv).2
def EB : El Bool := ⟨4, 31, 1, 1, .bool false, fun x => [.bool x], Try.underlying31, by kernel_rfl, rfl, by decide, by decide, fun _ => rfl, fun x u hu => by simp at hu; subst hu; rfl⟩
def EQ : El PA := ⟨33, 26, 6, 80, psZ, psCs, Try.underlying26, by kernel_rfl, rfl, by decide, by decide, fun _ => rfl, fun x u hu => psCs_one [x] u (by simpa using hu)⟩
theorem flatB (l : List Bool) : l.flatMap EB.cf = l.map Value.bool := by
  show l.flatMap (fun x => [Value.bool x]) = _
  induction l with
  | nil => rfl
  | cons x l ih => rw [List.flatMap_cons, ih]; rfl
theorem Bools.el {w : World} {a : Option Addr} {l : List Bool} (h : Bools w a l) : EB.At w a l := fun j u hu => by
  rw [flatB, List.getElem?_map] at hu
  have hj : j < l.length := by
    rcases Nat.lt_or_ge j l.length with hj | hj
    · exact hj
    · rw [List.getElem?_eq_none hj] at hu; cases hu
  obtain ⟨b, off, e, hc⟩ := h j hj
  refine ⟨b, off, e, ?_⟩
  rw [List.getElem?_eq_getElem hj] at hu
  simp only [Option.map_some, Option.some.injEq] at hu
  rw [hc, ← hu, bg_lt hj]
/-- one element of what Made gives back -/
structure MdE (B : Nat) (w : World) (s : Pos) (sa fa : Option Addr) (x : PA) : Prop where
  a : x.2.1 = sa
  st : x.1.starts = s.starts
  f : (x.2.2.2.1 = fa ∧ x.1.failed = s.failed) ∨ ∃ F, x.2.2.2.1 = some ⟨F, 0, none⟩ ∧ B ≤ F ∧ IsTy w F 4 ∧ BoxAt w F (x.1.failed.map Value.bool)
theorem MdE.block {B : Nat} {w w' : World} {s : Pos} {sa fa : Option Addr} {x : PA} (h : MdE B w s sa fa x) (e : ∀ F, IsTy w F 4 → B ≤ F → w'.heap[F]? = w.heap[F]?) : MdE B w' s sa fa x := by
  refine ⟨h.a, h.st, ?_⟩
  rcases h.f with hf | ⟨F, h1, h2, h3, h4⟩
  · exact .inl hf
  · exact .inr ⟨F, h1, h2, h3.block (e F h3 h2), h4.block (e F h3 h2)⟩
def RetM (s : Pos) (sa fa : Option Addr) (w : World) (e : Ending) (w' : World) : Prop := ∃ a c l, e = .returned (.slice a l.length c) ∧ l.map (fun x : PA => x.1.st) = madeL s.st ∧ OwnP w' w.heap.size (.slice a l.length c) l ∧ (∀ x ∈ l, MdE w.heap.size w' s sa fa x) ∧ Below w.heap.size w w'
def hitU (s : St) (v : Nat) : List Nat := if 0 < s.budget then (List.range v).filter (fun v => !bg s.failed v) else []
theorem hitU_succ (s : St) (v : Nat) : hitU s (v + 1) = hitU s v ++ if 0 < s.budget ∧ bg s.failed v = false then [v] else [] := by
  unfold hitU
  by_cases h : 0 < s.budget
  · rw [if_pos h, if_pos h, List.range_succ, List.filter_append]
    cases hb : bg s.failed v <;> simp [h, hb]
  · rw [if_neg h, if_neg h, if_neg (fun e => h e.1)]
    rfl
theorem hitU_full (s : St) : hitU s s.failed.length = hits s := rfl
theorem hitU_len (s : St) (v : Nat) : (hitU s v).length ≤ v := by
  unfold hitU
  split
  · have := List.length_filter_le (fun v => !bg s.failed v) (List.range v)
    rw [List.length_range] at this
    exact this
  · simp
set_option maxRecDepth 100000 in
set_option maxHeartbeats 4000000 in
theorem made_ref (s : Pos) (sa fa : Option Addr) (sc fc : Nat) (w : World) (hP : PsAt w s sa fa) (hl : s.failed.length ≤ 1000) (hb : s.budget ≤ 1000) :
    Calls Try.prog 25 #[psV s sa sc fa fc] w (RetM s sa fa w) := by
  have HP := Lib.hid hP
  obtain ⟨nf, hnf⟩ : ∃ n, n = s.failed.length := ⟨_, rfl⟩
  obtain ⟨nl, hnl⟩ : ∃ n, n = s.starts.length := ⟨_, rfl⟩
  obtain ⟨bu, hbu⟩ : ∃ n, n = s.budget := ⟨_, rfl⟩
  obtain ⟨tu, htu⟩ : ∃ n, n = s.turn := ⟨_, rfl⟩
  obtain ⟨ch, hch⟩ : ∃ n, n = s.choice := ⟨_, rfl⟩
  obtain ⟨bo, hbo⟩ : ∃ n, n = s.bound := ⟨_, rfl⟩
  have HNF := Lib.hid hnf
  have HNL := Lib.hid hnl
  have HBU := Lib.hid hbu
  have HFS := Lib.hid (show s = ⟨tu, s.starts, s.failed, bu, ch, bo⟩ from by rw [htu, hbu, hch, hbo])
  rw [← hnf] at hl
  rw [← hbu] at hb
  unfold psV
  rw [← hnf, ← hnl, ← hbu, ← htu, ← hch, ← hbo]
  clear hP hnf hnl hbu htu hch hbo
  go_enter Try.func25, Try.ntmps25
  go_upto_region 2 with fail
  obtain ⟨x0, hx0⟩ : ∃ x0 : PA, x0 = (s, (sa, sc, fa, fc)) := ⟨_, rfl⟩
  have hcs0 : EQ.cf x0 = [.int .i64 tu, .slice sa nl sc, .slice fa nf fc, .int .i64 bu, .int .i64 ch, .int .i64 bo] := by
    rw [hx0, HFS.out, HNF.out, HNL.out]
    rfl
  obtain ⟨wX, X, hX, hbX, hBX, hwX⟩ : ∃ wX X, X = w.heap.size ∧ Below w.heap.size w wX ∧ BoxAt wX X [.int .i64 tu, .slice sa nl sc, .slice fa nf fc, .int .i64 bu, .int .i64 ch, .int .i64 bo] ∧ wX = w.alloc (.cells #[.int .i64 tu, .slice sa nl sc, .slice fa nf fc, .int .i64 bu, .int .i64 ch, .int .i64 bo] 33) := ⟨_, _, rfl, (Below.refl _ _).alloc (Nat.le_refl _) _, BoxAt.new w _ _, rfl⟩
  have hsX : wX.heap.size = w.heap.size + 1 := by rw [hwX, World.size_alloc]
  rw [← hwX, ← hsX, ← hX]
  have hown : EQ.Own (wX.alloc (.cells #[.int .i64 tu, .slice sa nl sc, .slice fa nf fc, .int .i64 bu, .int .i64 ch, .int .i64 bo] 33)) wX.heap.size (.slice (some ⟨wX.heap.size, 0, none⟩) 1 1) [x0] := El.Own.lit (E := EQ) wX wX.heap.size (Nat.le_refl _) [x0] (by simp) _ (by rw [List.flatMap_singleton, hcs0])
  have hbA : Below wX.heap.size wX (wX.alloc (.cells #[.int .i64 tu, .slice sa nl sc, .slice fa nf fc, .int .i64 bu, .int .i64 ch, .int .i64 bo] 33)) := (Below.refl _ _).alloc (Nat.le_refl _) _
  have HXL := Lib.hid (show X < wX.heap.size ∧ w.heap.size ≤ wX.heap.size from ⟨by omega, by omega⟩)
  have HM0 := Lib.hid (show ∀ wy, MdE wX.heap.size wy s sa fa x0 from fun wy => by rw [hx0]; exact ⟨rfl, rfl, .inl ⟨rfl, rfl⟩⟩)
  have HX0 := Lib.hid (show x0.1 = s from by rw [hx0])
  have HBX := Lib.hid hbX
  have HPX := Lib.hid (HP.out.later hbX)
  have HOWN := Lib.hid hown
  have HBA := Lib.hid hbA
  have HBXA := Lib.hid (hBX.later hbA)
  clear hx0 hcs0 hX hbX hBX hwX hsX hown hbA
  go_wp2_with fail
  go_loopg [3, 4] (nf + 1) (fun k v3 v4 wr => ∃ (v : Nat) (l : List PA), v ≤ nf ∧ k + v = nf + 1 ∧ v4 = .int .i64 v ∧ Below wX.heap.size wX wr ∧ BoxAt wr X [.int .i64 tu, .slice sa nl sc, .slice fa nf fc, .int .i64 bu, .int .i64 ch, .int .i64 bo] ∧ EQ.Own wr wX.heap.size v3 l ∧ l.map (fun x : PA => x.1.st) = s.st :: (hitU s.st v).map (hit s.st) ∧ (∀ x ∈ l, MdE wX.heap.size wr s sa fa x))
  case atStart => exact ⟨0, [x0], by omega, by omega, rfl, HBA.out, HBXA.out, HOWN.out, by simp [hitU, HX0.out], fun x hx => by rw [List.mem_singleton.1 hx]; exact HM0.out _⟩
  case round =>
    obtain ⟨v, l, hv, hkv, rfl, hbr, hbx, hown, hmap, hmd⟩ := hrel
    have HBR := Lib.hid hbr
    have HBXR := Lib.hid hbx
    have HOW := Lib.hid hown
    have HMAP := Lib.hid hmap
    have HMD := Lib.hid hmd
    have y0 := (hbx 0 _ rfl).1
    have y1 := (hbx 1 _ rfl).1
    have y2 := (hbx 2 _ rfl).1
    have y3 := (hbx 3 _ rfl).1
    have y4 := (hbx 4 _ rfl).1
    have y5 := (hbx 5 _ rfl).1
    have hll : l.length ≤ 2000 := by
      have h := congrArg List.length hmap
      rw [List.length_map, List.length_cons, List.length_map] at h
      have := hitU_len s.st v
      omega
    have hsz := hbr.size
    by_cases hlt : v < nf
    · have hvF : v < s.failed.length := by have := HNF.out; omega
      obtain ⟨fb, fo, rfl, hfc⟩ := (HPX.out.later hbr).f v hvF
      have hsucc := hitU_succ s.st v
      have n1 : (v : Int) < (nf : Int) := by omega
      have n0 : (0 : Int) ≤ (v : Int) := by omega
      obtain ⟨d, hd⟩ : ∃ d, d = bg s.failed v := ⟨_, rfl⟩
      rw [← hd] at hfc
      have HSU := Lib.hid hsucc
      have HD := Lib.hid hd
      clear hbr hbx hown hmap hmd hsucc hd
      by_cases hb0 : 0 < bu
      · have e1 : decide (bu ≤ 0) = false := by simp; omega
        cases d
        · have hXr : X < wr.heap.size := by have := HXL.out.1; omega
          have hfr : fb < wr.heap.size := World.block_lt_of_cell? _ _ hfc
          have hwb : IntKind.i64.wrap (bu - 1) = bu - 1 := IntWalk.i64_in _ (by omega)
          go_upto_region 8 with fail
          obtain ⟨wT, T, hT, hbT, hBT, hwT⟩ : ∃ wT T, T = wr.heap.size ∧ Below wr.heap.size wr wT ∧ BoxAt wT T [.int .i64 tu, .slice sa nl sc, .slice (some ⟨fb, fo, none⟩) nf fc, .int .i64 (bu - 1), .int .i64 ch, .int .i64 bo] ∧ wT = wr.alloc (.cells #[.int .i64 tu, .slice sa nl sc, .slice (some ⟨fb, fo, none⟩) nf fc, .int .i64 (bu - 1), .int .i64 ch, .int .i64 bo] 33) := ⟨_, _, rfl, (Below.refl _ _).alloc (Nat.le_refl _) _, BoxAt.new wr _ _, rfl⟩
          rw [← hwT, ← hT]
          have hsT : wT.heap.size = wr.heap.size + 1 := by rw [hwT, World.size_alloc]
          have HTR := Lib.hid hT
          have hbA : Below wT.heap.size wT (wT.alloc (.cells #[] 4)) := (Below.refl _ _).alloc (Nat.le_refl _) _
          have hfA := (HPX.out.f.el.later ((HBR.out.trans (hbT.mono HBR.out.size)).trans (hbA.mono (Nat.le_trans HBR.out.size (by omega)))))
          obtain ⟨v8, w8, hr8, ho8, hg8, _⟩ := El.app (E := EB) (wT.alloc (.cells #[] 4)) wT.heap.size (.slice (some ⟨wT.heap.size, 0, none⟩) 0 0) [] s.failed (El.Own.lit (E := EB) wT wT.heap.size (Nat.le_refl _) [] (by simp) #[] rfl) (some ⟨fb, fo, none⟩) fc hfA (by have := HNF.out; simp; omega) (by simp) 31
          rw [← HNF.out] at hr8
          obtain ⟨a8, c8, e8, _, _, hat8, hwh8⟩ := ho8.at
          have hlen8 : ([] ++ s.failed).length = nf := by rw [List.nil_append, HNF.out]
          rw [hlen8] at e8
          obtain ⟨g8, rfl, hg8l, hg8u⟩ : ∃ g, a8 = some ⟨g, 0, none⟩ ∧ wT.heap.size ≤ g ∧ g < w8.heap.size := by
            rcases hwh8 with ⟨_, _, h⟩ | h
            · have h2 := congrArg List.length h
              rw [hlen8] at h2
              simp at h2
              omega
            · exact h
          subst e8
          have hb8 : Below wT.heap.size wT w8 := hbA.grown hg8 (by simp) (fun g hg => by have hg' : some wT.heap.size = some g := hg; simp only [Option.some.injEq] at hg'; omega)
          have hty8 : IsTy w8 g8 4 := ho8.ty rfl
          have hbx8 : BoxAt w8 g8 (s.failed.map Value.bool) := fun o u hu => by
            have ho8' : w8.ownsRow wT.heap.size 4 1 (.slice (some ⟨g8, 0, none⟩) nf c8) nf (s.failed.map Value.bool) := by
              have h := ho8
              unfold El.Own at h
              rw [flatB, hlen8, List.nil_append] at h
              exact h
            have hoL : o < nf * 1 := by have := (List.getElem?_eq_some_iff.1 hu).1; rw [List.length_map] at this; have := HNF.out; omega
            exact ⟨by rw [ho8'.cellAt o hoL]; exact hu, ho8'.frozenAt o⟩
          have hBT8 := hBT.later hb8
          have HR8 := Lib.hid hr8
          have t2 := (hBT8 2 _ rfl).1
          have f2 := (hBT8 2 _ rfl).2
          have hTl : T < wT.heap.size := by omega
          have hbxX : BoxAt wT X [.int .i64 tu, .slice sa nl sc, .slice (some ⟨fb, fo, none⟩) nf fc, .int .i64 bu, .int .i64 ch, .int .i64 bo] := HBXR.out.later hbT
          have z2 := (hbxX 2 _ rfl).1
          have HB8 := Lib.hid hb8
          have HBT8 := Lib.hid hBT8
          have HTY8 := Lib.hid hty8
          have HBX8 := Lib.hid hbx8
          have HBT := Lib.hid hbT
          have hs8 := hb8.size
          have hXt : X < wT.heap.size := by omega
          have HST := Lib.hid hsT
          clear hsT hwT hT hbT hBT hbA hfA hr8 ho8 hg8 hat8 hwh8 hlen8 hb8 hty8 hbx8 hBT8 hbxX y0 y1 y2 y3 y4 y5 hfc
          go_upto_region 9 with (at_builtin; go_loud (refine wpList_app_eqQ rfl _ _ _ rfl _ _ rfl rfl HR8.out ?_))
          obtain ⟨w9, hb9, hch9, hBT9, hw9⟩ : ∃ w9, Below wT.heap.size wT w8 ∧ Chg (fun k => k = T) w8 w9 ∧ BoxAt w9 T [.int .i64 tu, .slice sa nl sc, .slice (some ⟨g8, 0, none⟩) nf c8, .int .i64 (bu - 1), .int .i64 ch, .int .i64 bo] ∧ w9 = w8.setCell ⟨T, 2, none⟩ (.slice (some ⟨g8, 0, none⟩) nf c8) := ⟨_, HB8.out, Chg.setCell (S := fun k => k = T) (Chg.refl _ _) (p := ⟨T, 2, none⟩) (fun _ => rfl) _, HBT8.out.put 2 _ (by simp), rfl⟩
          rw [← hw9]
          have hg8T : ¬ g8 = T := by omega
          have hX9 : w9.heap.size = w8.heap.size := by rw [hw9, World.size_setCell]
          have hty9 := HTY8.out.block (hch9.block g8 hg8u hg8T)
          have hbx9 := HBX8.out.block (hch9.block g8 hg8u hg8T)
          have hvl : v < (s.failed.map Value.bool).length := by rw [List.length_map]; exact hvF
          have hcv := (hbx9 v _ (List.getElem?_eq_getElem hvl)).1
          have hfv := (hbx9 v _ (List.getElem?_eq_getElem hvl)).2
          obtain ⟨uv, huv⟩ : ∃ u, u = (s.failed.map Value.bool)[v] := ⟨_, rfl⟩
          rw [← huv] at hcv
          have q2 := (hBT9 2 _ rfl).1
          have HBT9 := Lib.hid hBT9
          have HCH9 := Lib.hid hch9
          have HX9 := Lib.hid hX9
          have HBX9 := Lib.hid hbx9
          have HTY9 := Lib.hid hty9
          have HVL := Lib.hid hvl
          clear hw9 hch9 hBT9 hX9 hty9 hbx9 huv hvl t2 f2 z2 hb9
          go_upto_region 10 with fail
          obtain ⟨w10, hch10, hBX10, hTY10, hw10⟩ : ∃ w10, Chg (fun k => k = g8) w9 w10 ∧ BoxAt w10 g8 ((s.failed.set v true).map Value.bool) ∧ IsTy w10 g8 4 ∧ w10 = w9.setCell ⟨g8, v, none⟩ (.bool true) := ⟨_, Chg.setCell (S := fun k => k = g8) (Chg.refl _ _) (p := ⟨g8, v, none⟩) (fun _ => rfl) _, by rw [List.map_set]; exact HBX9.out.put v _ HVL.out, HTY9.out.setCell _ _ _, rfl⟩
          rw [← hw10]
          have hs10 : w10.heap.size = w8.heap.size := by rw [hw10, World.size_setCell, HX9.out]
          have hb10 : Below wr.heap.size wr w10 := (HBT.out.trans (HB8.out.mono HBT.out.size)).trans (((Chg.mono HCH9.out (T := fun k => k = T ∨ k = g8) (fun k _ h => Or.inl h)).trans (Chg.mono hch10 (T := fun k => k = T ∨ k = g8) (fun k _ h => Or.inr h))).below (Nat.le_trans HBT.out.size HB8.out.size) (fun k hk => by
            have := HTR.out
            have := HST.out
            rcases hk with h | h
            · omega
            · omega))
          have hTw9 : T < w9.heap.size := by have := HX9.out; omega
          have hBT10 := HBT9.out.block (hch10.block T hTw9 (fun e => hg8T e.symm))
          have t0 := (hBT10 0 _ rfl).1
          have t1 := (hBT10 1 _ rfl).1
          have t2 := (hBT10 2 _ rfl).1
          have t3 := (hBT10 3 _ rfl).1
          have t4 := (hBT10 4 _ rfl).1
          have t5 := (hBT10 5 _ rfl).1
          obtain ⟨x, hx⟩ : ∃ x : PA, x = (⟨tu, s.starts, s.failed.set v true, bu - 1, ch, bo⟩, (sa, sc, some ⟨g8, 0, none⟩, c8)) := ⟨_, rfl⟩
          have hcs : EQ.cf x = [.int .i64 tu, .slice sa nl sc, .slice (some ⟨g8, 0, none⟩) nf c8, .int .i64 (bu - 1), .int .i64 ch, .int .i64 bo] := by
            rw [hx, HNF.out, HNL.out]
            show [Value.int .i64 tu, Value.slice sa s.starts.length sc, Value.slice (some ⟨g8, 0, none⟩) (s.failed.set v true).length c8, Value.int .i64 (bu - 1), Value.int .i64 ch, Value.int .i64 bo] = _
            rw [List.length_set]
          have hxm : MdE wX.heap.size w10 s sa (some ⟨fb, fo, none⟩) x := by
            rw [hx]
            exact ⟨rfl, rfl, .inr ⟨g8, rfl, by have := HST.out; omega, hTY10, hBX10⟩⟩
          have hxs : x.1.st = hit s.st v := by
            rw [hx, HBU.out, show tu = s.turn from congrArg Pos.turn HFS.out.symm]
            rfl
          have hbA : Below w10.heap.size w10 (w10.alloc (.cells #[.int .i64 tu, .slice sa nl sc, .slice (some ⟨g8, 0, none⟩) nf c8, .int .i64 (bu - 1), .int .i64 ch, .int .i64 bo] 33)) := (Below.refl _ _).alloc (Nat.le_refl _) _
          have hs2 := hb10.size
          have ho10 := (HOW.out.later hb10).later hbA
          obtain ⟨v2, w2, hr2, ho2, hg2, _⟩ := El.app (E := EQ) (w10.alloc (.cells #[.int .i64 tu, .slice sa nl sc, .slice (some ⟨g8, 0, none⟩) nf c8, .int .i64 (bu - 1), .int .i64 ch, .int .i64 bo] 33)) wX.heap.size u3 l [x] ho10 (some ⟨w10.heap.size, 0, none⟩) 1 (El.at_lit' EQ w10 [x] _ _ (by rw [List.flatMap_singleton, hcs])) (by simp; omega) (by simp; omega) 26
          have hr0 : ∀ g, u3.ownBlock = some g → wX.heap.size ≤ g := fun g hg => (HOW.out.lt g hg).1
          have hrX : ∀ g, u3.ownBlock = some g → g ≠ X := fun g hg => by have := hr0 g hg; have := HXL.out.1; omega
          have HB2 := Lib.hid ((HBR.out.trans ((hb10.trans (hbA.mono hs2)).mono HBR.out.size)).grown hg2 (by simp; omega) hr0)
          have HO2 := Lib.hid ho2
          have HR2 := Lib.hid hr2
          have hXw : X < w10.heap.size := by omega
          have HBX2 := Lib.hid (((HBXR.out.later hb10).later hbA).block (hg2.block X (by simp; omega) (fun e => hrX X e.symm rfl)))
          have HMD2 := Lib.hid (show ∀ y ∈ l ++ [x], MdE wX.heap.size w2 s sa (some ⟨fb, fo, none⟩) y from fun y hy => by
            have h1 : MdE wX.heap.size w10 s sa (some ⟨fb, fo, none⟩) y := by
              rcases List.mem_append.1 hy with hy | hy
              · exact (HMD.out y hy).block fun F' hF' _ => hb10.block F' hF'.lt
              · rw [List.mem_singleton.1 hy]
                exact hxm
            exact (h1.block fun F' hF' _ => hbA.block F' hF'.lt).block fun F' hF' _ => hg2.block F' hF'.lt fun e => absurd rfl ((ho10.ty e.symm).ne hF' (by decide)))
          have HMAP2 := Lib.hid (show (l ++ [x]).map (fun x : PA => x.1.st) = s.st :: (hitU s.st (v + 1)).map (hit s.st) from by
            rw [HSU.out, if_pos ⟨by show 0 < s.budget; rw [← HBU.out]; exact hb0, HD.out.symm⟩, List.map_append, List.map_append, HMAP.out]
            simp [hxs])
          clear hw10 hch10 hBX10 hTY10 hb10 hBT10 hx hcs hxm hxs hbA ho10 hr2 ho2 hg2 hr0 hrX hs10
          go_wp2_with (at_builtin; go_loud (refine wpList_app_eqQ rfl _ _ _ rfl _ _ rfl rfl HR2.out ?_))
          go_roundg (nf - v)
          case measure => omega
          case rel => exact ⟨v + 1, l ++ [x], by omega, by omega, by go_num, HB2.out, HBX2.out, HO2.out, HMAP2.out, HMD2.out⟩
        · have HNH := Lib.hid (show hitU s.st (v + 1) = hitU s.st v from by
            rw [HSU.out, if_neg (fun e => by have h := e.2; rw [show s.st.failed = s.failed from rfl, ← HD.out] at h; cases h), List.append_nil])
          go_wp2_with fail
          go_roundg (nf - v)
          case measure => omega
          case rel => exact ⟨v + 1, l, by omega, by omega, by go_num, HBR.out, HBXR.out, HOW.out, by rw [HNH.out]; exact HMAP.out, HMD.out⟩
      · have e1 : decide (bu ≤ 0) = true := by simp; omega
        have HNH := Lib.hid (show hitU s.st (v + 1) = hitU s.st v from by
          rw [HSU.out, if_neg (fun e => by have h := e.1; rw [show s.st.budget = s.budget from rfl, ← HBU.out] at h; exact hb0 h), List.append_nil])
        clear hb0
        go_wp2_with fail
        go_roundg (nf - v)
        case measure => omega
        case rel => exact ⟨v + 1, l, by omega, by omega, by go_num, HBR.out, HBXR.out, HOW.out, by rw [HNH.out]; exact HMAP.out, HMD.out⟩
    · obtain rfl : v = nf := by omega
      have hfull : l.map (fun x : PA => x.1.st) = madeL s.st := by
        rw [hmap, HNF.out]
        rfl
      obtain ⟨a, c, rfl, _⟩ := hown.at
      have HFU := Lib.hid hfull
      clear hbr hbx hown hmap hmd hfull
      go_wp2_with fail
      go_ret
      exact ⟨a, c, l, rfl, HFU.out, HOW.out.mono HXL.out.2, fun x hx => by
        have h := HMD.out x hx
        exact ⟨h.a, h.st, h.f.imp id (fun ⟨F, h1, h2, h3⟩ => ⟨F, h1, Nat.le_trans HXL.out.2 h2, h3⟩)⟩, HBX.out.trans (HBR.out.mono HXL.out.2)⟩
end Go.Proofs.Ytghdfoolieagfaa
