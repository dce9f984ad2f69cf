




/- For every game and vehicle: with one more start, or allowed for one more departure, no more is lost; one more of the budget, or without the last departure, changes it in the right direction (at most 6 departures and 4 vehicles, else nothing is said). -/
import Derived.Test.YtlkknoooeldomaaGamT
import Derived.Test.YtlkknoooeldomaaLift
namespace Go.Proofs.Ytlkknoooeldomaa
open Go.ChangeShapes Go.WideShapes Go.ChangeAt Go.RowKit Go.Joins Go.Deep
section
variable {H : Type} {enc : TypeId × Value → H} {w : World} {held : Bool}
set_option maxRecDepth 100000 in
theorem open_u8 {b0 : Nat} {r : Reach} {v : Value} {d : DataW H} {p : List MemPlace} (hv : Value.okWide Try.prog w r b0 5 v) (h : DataW.Trod enc Try.prog w 0 (fun _ => true) held 5 v d p) :
    ∃ n : Int, v = .int .u8 n ∧ 0 ≤ n ∧ n < 256 := by
  obtain ⟨n, rfl, _, _, hw⟩ := open_int Try.underlying5 hv h
  have h1 := Bool.and_eq_true_iff.1 hw
  have h2 : 0 ≤ n := of_decide_eq_true h1.1
  have h3 : n ≤ 255 := of_decide_eq_true h1.2
  exact ⟨n, rfl, h2, by omega⟩
set_option maxRecDepth 100000 in
theorem open_gamec {b0 : Nat} {r : Reach} {v : Value} {d : DataW H} {p : List MemPlace} (hv : Value.okWide Try.prog w r b0 25 v) (h : DataW.Trod enc Try.prog w 0 (fun _ => true) held 25 v d p) :
    ∃ (g : Gm) (sa : Option Addr) (sc : Nat) (da : Option Addr) (dc : Nat), v = gmV g sa sc da dc ∧ GmAt w g sa da ∧ GmBig g ∧ g.deps.length ≤ dc := by
  obtain ⟨v0, v1, v2, y0, y1, y2, n, rfl, _, _, h0, h1, h2⟩ := open_agg3 Try.underlying25 (by kernel_rfl) (by kernel_rfl) hv h
  obtain ⟨sa, sc, l, e0, hI, hl, _⟩ := read_ints h0
  obtain ⟨da, dc, ll, e1, hR, hd, hr⟩ := read_rows h1
  obtain ⟨z, e2, _, wz⟩ := DataW.trod_int Try.underlying3 h2
  have hcap : ll.length ≤ dc := by
    rw [e1] at h1
    rcases open_slice Try.underlying23 h1 with ⟨hc, _⟩ | ⟨a, len, cap, m, n, D, Pl, hc, _, hl, hm, hmm, _, hi⟩
    · simp at hc
      simp [hc.2.1]
    · simp at hc hmm
      omega
  simp at e0 e1 e2
  subst e0 e1 e2
  exact ⟨⟨l, ll, z⟩, sa, sc, da, dc, rfl, ⟨hI, hR⟩, ⟨hl, hd, hr, inI_of wz⟩, hcap⟩
end
namespace GameMore

/-! ### plain -/
def moreG (g : Gm) (v : Nat) : Gm := ⟨g.starts.set v (ig g.starts v + 1), g.deps, g.budget⟩
def inV (d : List Int) (v k : Nat) : Bool := decide (k = v) || d.any fun x => decide (x = (k : Int))
def alL (d : List Int) (v n : Nat) : List Int := ((List.range n).filter (inV d v)).map fun (k : Nat) => (k : Int)
def allowG (g : Gm) (v t : Nat) : Gm := ⟨g.starts, g.deps.set t (alL (dg g t) v g.starts.length), g.budget⟩
def budG (g : Gm) : Gm := ⟨g.starts, g.deps, g.budget + 1⟩
def shortG (g : Gm) : Gm := ⟨g.starts, g.deps.dropLast, g.budget⟩
theorem mem_alL {d : List Int} {v n : Nat} {x : Int} : x ∈ alL d v n ↔ ∃ k : Nat, k < n ∧ inV d v k = true ∧ x = k := by
  unfold alL
  simp only [List.mem_map, List.mem_filter, List.mem_range]
  exact ⟨fun ⟨k, ⟨h1, h2⟩, h3⟩ => ⟨k, h1, h2, h3.symm⟩, fun ⟨k, h1, h2, h3⟩ => ⟨k, ⟨h1, h2⟩, h3.symm⟩⟩
theorem alL_succ (d : List Int) (v n : Nat) : alL d v (n + 1) = alL d v n ++ if inV d v n then [(n : Int)] else [] := by
  unfold alL
  rw [List.range_succ, List.filter_append, List.map_append]
  congr 1
  cases h : inV d v n <;> simp [h]
theorem alL_len (d : List Int) (v n : Nat) : (alL d v n).length ≤ n := by
  unfold alL
  rw [List.length_map]
  exact Nat.le_trans (List.length_filter_le _ _) (by simp)
theorem alL_lt {d : List Int} {v n : Nat} {x : Int} (h : x ∈ alL d v n) : 0 ≤ x ∧ x < n := by
  obtain ⟨k, h1, _, rfl⟩ := mem_alL.1 h
  omega
theorem ig_append_l {l m : List Int} {i : Nat} (h : i < l.length) : ig (l ++ m) i = ig l i := by
  rw [ig_lt (by rw [List.length_append]; omega), ig_lt h, List.getElem_append_left h]
theorem alL_ok (d : List Int) (v : Nat) : ∀ n, okDep n (alL d v n)
  | 0 => fun i hi => by simp [alL] at hi
  | n + 1 => fun i hi => by
    have ih := alL_ok d v n
    have hlt : ∀ j, j < (alL d v n).length → ig (alL d v n) j < n := fun j hj => (ih j hj).2
    rw [alL_succ] at hi ⊢
    by_cases hn : inV d v n
    · rw [if_pos hn] at hi ⊢
      rw [List.length_append, List.length_singleton] at hi
      by_cases hj : i < (alL d v n).length
      · have := ih i hj
        rw [ig_append_l hj]
        refine ⟨?_, by omega⟩
        split
        · rename_i h0; rw [if_pos h0] at this; exact this.1
        · rename_i h0; rw [if_neg h0] at this; rw [ig_append_l (by omega)]; exact this.1
      · obtain rfl : i = (alL d v n).length := by omega
        have e : ig (alL d v n ++ [(n : Int)]) (alL d v n).length = n := by
          rw [ig_lt (by simp)]
          simp
        rw [e]
        refine ⟨?_, by omega⟩
        split
        · omega
        · rw [ig_append_l (by omega)]
          exact hlt _ (by omega)
    · rw [if_neg hn, List.append_nil] at hi ⊢
      have := ih i hi
      exact ⟨this.1, by omega⟩
theorem sub_alL {g : Gm} (hv : VG g) {t v : Nat} (ht : t < g.deps.length) {x : Int} (hx : x ∈ dg g t) : x ∈ alL (dg g t) v g.starts.length := by
  have h := okDep_domG (hv.2.2.2.2.2 t ht) hx
  refine mem_alL.2 ⟨x.toNat, by omega, ?_, by omega⟩
  unfold inV
  rw [Bool.or_eq_true, List.any_eq_true]
  exact .inr ⟨x, hx, by simp; omega⟩
theorem LeD.refl : ∀ l, LeD l l
  | [] => .nil
  | _ :: l => .cons (fun _ h => h) (LeD.refl l)
theorem LeD.set : ∀ {l : List (List Int)} {t : Nat} {d : List Int}, (∀ v ∈ l.getD t [], v ∈ d) → LeD l (l.set t d)
  | [], _, _, _ => .nil
  | a :: l, 0, d, h => .cons h (LeD.refl l)
  | a :: l, t + 1, d, h => .cons (fun _ h => h) (LeD.set (l := l) (t := t) (by simpa using h))
theorem dg_set {g : Gm} {t : Nat} {d : List Int} {s : List Int} {b : Int} {i : Nat} (hi : i < g.deps.length) : dg ⟨s, g.deps.set t d, b⟩ i = if t = i then d else dg g i := by
  unfold dg
  show (g.deps.set t d).getD i [] = _
  rw [List.getD_eq_getElem?_getD, List.getElem?_set, List.getD_eq_getElem?_getD]
  split
  · rename_i h; subst h; rw [if_pos hi]; rfl
  · rfl
theorem allow_vg {g : Gm} (hv : VG g) (v t : Nat) : VG (allowG g v t) := by
  refine ⟨hv.1, by show (g.deps.set _ _).length ≤ 12; rw [List.length_set]; exact hv.2.1, hv.2.2.1, hv.2.2.2.1, hv.2.2.2.2.1, fun i hi => ?_⟩
  have hi' : i < g.deps.length := by have : i < (g.deps.set t (alL (dg g t) v g.starts.length)).length := hi; rwa [List.length_set] at this
  show okDep g.starts.length _
  unfold allowG
  rw [dg_set hi']
  split
  · exact alL_ok _ _ _
  · exact hv.2.2.2.2.2 i hi'
theorem allow_sm {g : Gm} (hv : VG g) (hs : SmG g) (v t : Nat) : SmG (allowG g v t) :=
  hs.mono hv (allow_vg hv v t) rfl (by show (g.deps.set _ _).length ≤ _; rw [List.length_set]; exact Nat.le_refl _) (Int.le_refl _) fun _ => Int.le_refl _
theorem allow_le {g : Gm} (hv : VG g) {v t : Nat} (ht : t < g.deps.length) : WG (allowG g v t) (beginS (allowG g v t)) ≤ WG g (beginS g) :=
  (val_LeV (allow_vg hv v t) _).2 (((val_LeV hv _).1 (Int.le_refl _)).moreD (LeD.set fun _ hx => sub_alL hv ht hx))
theorem short_vg {g : Gm} (hv : VG g) : VG (shortG g) := by
  refine ⟨hv.1, by show g.deps.dropLast.length ≤ 12; rw [List.length_dropLast]; have := hv.2.1; omega, hv.2.2.1, hv.2.2.2.1, hv.2.2.2.2.1, fun i hi => ?_⟩
  have hi' : i < g.deps.length - 1 := by have : i < g.deps.dropLast.length := hi; rwa [List.length_dropLast] at this
  have e : dg (shortG g) i = dg g i := by
    unfold dg shortG
    show g.deps.dropLast.getD i [] = _
    rw [List.getD_eq_getElem?_getD, List.getD_eq_getElem?_getD, List.getElem?_dropLast, if_pos hi']
  rw [e]
  exact hv.2.2.2.2.2 i (by omega)
theorem short_sm {g : Gm} (hv : VG g) (hs : SmG g) : SmG (shortG g) :=
  hs.mono hv (short_vg hv) rfl (by show g.deps.dropLast.length ≤ _; rw [List.length_dropLast]; omega) (Int.le_refl _) fun _ => Int.le_refl _
theorem short_le {g : Gm} (hv : VG g) (h0 : 0 < g.deps.length) : WG (shortG g) (beginS (shortG g)) ≤ WG g (beginS g) ∧ WG g (beginS g) ≤ WG (shortG g) (beginS (shortG g)) + 1 := by
  have hne : g.deps ≠ [] := fun e => by rw [e] at h0; simp at h0
  have e : g.deps = g.deps.dropLast ++ [g.deps.getLast hne] := (List.dropLast_concat_getLast hne).symm
  constructor
  · refine (val_LeV (short_vg hv) _).2 ?_
    have h := (val_LeV hv _).1 (Int.le_refl _)
    rw [e] at h
    exact h.short
  · refine (val_LeV hv _).2 ?_
    have h := (val_LeV (short_vg hv) _).1 (Int.le_refl _)
    have h := LeV.long (d := g.deps.getLast hne) h
    show LeV g.deps g.starts g.budget _
    rw [e]
    exact h
theorem more_vals {g : Gm} (hv : VG g) (v : Nat) : ¬ (valG (moreG g v)).2 = 0 ∨ (valG (moreG g v)).2 = 0 ∧ (valG (moreG g v)).1 ≤ WG g (beginS g) := by
  by_cases h1 : VG (moreG g v)
  · by_cases h2 : SmG (moreG g v)
    · rw [valG_ok h1 h2]
      exact .inr ⟨rfl, (val_LeV h1 _).2 (((val_LeV hv _).1 (Int.le_refl _)).moreS ⟨List.length_set.symm, fun i => by show _ ≤ ig (g.starts.set v _) i; rw [ig_set]; split <;> (try subst_vars) <;> (try omega); rename_i h; rw [h.1]; omega⟩)⟩
    · rw [valG_big h1 h2]; exact .inl (by decide)
  · rw [valG_bad h1]; exact .inl (by decide)
theorem bud_vals {g : Gm} (hv : VG g) : ¬ (valG (budG g)).2 = 0 ∨ (valG (budG g)).2 = 0 ∧ WG g (beginS g) ≤ (valG (budG g)).1 := by
  by_cases h1 : VG (budG g)
  · by_cases h2 : SmG (budG g)
    · rw [valG_ok h1 h2]
      exact .inr ⟨rfl, (val_LeV hv _).2 (((val_LeV h1 _).1 (Int.le_refl _)).lessB (by show g.budget ≤ g.budget + 1; omega))⟩
    · rw [valG_big h1 h2]; exact .inl (by decide)
  · rw [valG_bad h1]; exact .inl (by decide)
theorem copy_app {α : Type} {E : El α} (W : World) (l : List α) (a : Option Addr) (c : Nat) (h : E.At W a l) (hl : l.length ≤ 100) (h0 : 0 < l.length) (ty : TypeId) :
    ∃ gb lc w7, (Builtin.append_ #[E.TS, E.TS] ty #[.slice (some ⟨W.heap.size, 0, none⟩) 0 0, .slice a l.length c]).run Try.prog (W.alloc (.cells #[] E.T)) = .ok (.slice (some ⟨gb, 0, none⟩) l.length lc) w7 ∧ E.Own w7 W.heap.size (.slice (some ⟨gb, 0, none⟩) l.length lc) l ∧ Below W.heap.size W w7 := by
  have hA := El.Own.lit (E := E) W W.heap.size (Nat.le_refl _) [] (by simp) #[] rfl
  have hbA : Below W.heap.size W (W.alloc (.cells #[] E.T)) := (Below.refl _ _).alloc (Nat.le_refl _) _
  obtain ⟨v1, w7, hr, ho, hg, _⟩ := El.app (E := E) _ W.heap.size _ [] l hA a c (h.later hbA) (by simp; omega) hbA.size ty
  rw [List.nil_append] at ho
  obtain ⟨la, lc, e1, _, _, _, hcase⟩ := ho.at
  have hlb : ∃ gb, la = some ⟨gb, 0, none⟩ := by
    rcases hcase with ⟨_, _, e⟩ | ⟨gb, e, _⟩
    · rw [e] at h0; simp at h0
    · exact ⟨gb, e⟩
  obtain ⟨gb, rfl⟩ := hlb
  subst e1
  exact ⟨gb, lc, w7, hr, ho, hbA.grown hg hbA.size fun b hb => (hA.lt b hb).1⟩
theorem stA {α : Type} {E : El α} {W5 W6 W7 : World} {O : Nat} {l : List α} {v1 : Value} {c : Value} {cs : List Value} (hb6 : Below W5.heap.size W5 W6) (hO : O = W5.heap.size) (hs6 : W6.heap.size = O + 1) (hx6 : BoxAt W6 O (c :: cs)) (k : Nat) (hk : k < (c :: cs).length) (hb7 : Below W6.heap.size W6 W7) (ho : E.Own W7 W6.heap.size v1 l) :
    Below W5.heap.size W5 (W7.setCell ⟨O, k, none⟩ v1) ∧ BoxAt (W7.setCell ⟨O, k, none⟩ v1) O ((c :: cs).set k v1) ∧ E.Own (W7.setCell ⟨O, k, none⟩ v1) (O + 1) v1 l :=
  ⟨(hb6.trans (hb7.mono (by omega))).setCell (p := ⟨O, k, none⟩) (show W5.heap.size ≤ O by omega) _, (hx6.later hb7).put k v1 hk, (ho.block fun b hb => heap_setCell_other W7 ⟨O, k, none⟩ b v1 (by have := (ho.lt b hb).1; intro e; have e' : b = O := e; omega)).mono (by omega)⟩
theorem flatR_set (l : List (Option Addr × Nat × Nat)) (q : Nat) (x : Option Addr × Nat × Nat) : (l.flatMap ER.cf).set q (.slice x.1 x.2.1 x.2.2) = (l.set q x).flatMap ER.cf := by
  induction l generalizing q with
  | nil => rfl
  | cons a l ih =>
    cases q with
    | zero => rfl
    | succ q =>
      show (Value.slice a.1 a.2.1 a.2.2 :: l.flatMap ER.cf).set (q + 1) _ = Value.slice a.1 a.2.1 a.2.2 :: (l.set q x).flatMap ER.cf
      rw [List.set_cons_succ, ih]
theorem own_setR {w : World} {B g n cap : Nat} {l : List (Option Addr × Nat × Nat)} (h : ER.Own w B (.slice (some ⟨g, 0, none⟩) n cap) l) (q : Nat) (x : Option Addr × Nat × Nat) : ER.Own (w.setCell ⟨g, q, none⟩ (.slice x.1 x.2.1 x.2.2)) B (.slice (some ⟨g, 0, none⟩) n cap) (l.set q x) := by
  obtain ⟨a, c, e, _⟩ := h.at
  cases e
  have h1 := World.ownsRow.stored h q (.slice x.1 x.2.1 x.2.2)
  have h2 := h1.1
  unfold El.Own
  rw [flatR_set] at h2
  rw [List.length_set]
  exact h2
/-- a game whose rows lie one by one -/
theorem rows2_of {W : World} {a : Option Addr} {R : List (Option Addr × Nat × Nat)} {L : List (List Int)} (h : ER.At W a R) (hl : R.length = L.length) (hi : ∀ i (h : i < R.length), R[i].2.1 = (L.getD i []).length ∧ Ints W R[i].1 (L.getD i [])) : Rows2 W a L := fun j hj => by
  have hj' : j < R.length := by omega
  have hu : (R.flatMap ER.cf)[j]? = some (.slice R[j].1 R[j].2.1 R[j].2.2) := by
    have h := ER.fat R j hj' 0 (by decide)
    rw [show j * ER.S + 0 = j by show j * 1 + 0 = j; omega] at h
    rw [h]
    rfl
  obtain ⟨b, off, ea, hcell⟩ := h j _ hu
  exact ⟨b, off, R[j].1, R[j].2.2, ea, by rw [hcell, (hi j hj').1], (hi j hj').2⟩
/-- the rows as they lie -/
theorem rows_of {W : World} {da : Option Addr} {l : List (List Int)} {nd : Nat} (h : Rows2 W da l) (hl : l.length = nd) :
    ∃ (rws : List (Option Addr × Nat × Nat)), rws.length = nd ∧ ER.At W da rws ∧ ∀ i (h : i < rws.length), rws[i].2.1 = (l.getD i []).length ∧ Ints W rws[i].1 (l.getD i []) := by
  subst hl
  obtain ⟨A, hA⟩ := Classical.axiomOfChoice (α := Fin l.length) (β := fun _ => Option Addr × Nat × Nat) (r := fun x A => (∃ b off, da = some ⟨b, off, none⟩ ∧ W.cell? ⟨b, off + x, none⟩ = some (.slice A.1 A.2.1 A.2.2)) ∧ A.2.1 = (l.getD x []).length ∧ Ints W A.1 (l.getD x [])) (fun x => by
    obtain ⟨b, off, ra, rc, ha, h2, h3⟩ := h x x.2
    exact ⟨(ra, _, rc), ⟨b, off, ha, h2⟩, rfl, h3⟩)
  refine ⟨List.ofFn A, by simp, fun j u hu => ?_, fun i hi => ?_⟩
  · have hj : j < (List.ofFn A).length := by
      have := (List.getElem?_eq_some_iff.1 hu).1
      rw [ER.flen] at this
      show j < _
      have e : (List.ofFn A).length * ER.S = (List.ofFn A).length := Nat.mul_one _
      omega
    have h := ER.fat (List.ofFn A) j hj 0 (by decide)
    rw [show j * ER.S + 0 = j by show j * 1 + 0 = j; omega, hu] at h
    have h2 : u = .slice (A ⟨j, by simpa using hj⟩).1 (A ⟨j, by simpa using hj⟩).2.1 (A ⟨j, by simpa using hj⟩).2.2 := by
      have h3 := Option.some.inj h
      rw [h3]
      rw [List.getElem_ofFn]
    obtain ⟨b, off, e1, e2⟩ := (hA ⟨j, by simpa using hj⟩).1
    exact ⟨b, off, e1, by rw [h2]; exact e2⟩
  · have hi' : i < l.length := by simpa using hi
    have := (hA ⟨i, hi'⟩).2
    simpa using this
/-! ### the walk -/
set_option maxRecDepth 100000 in
set_option maxHeartbeats 8000000 in
theorem all (g : Gm) (sa da : Option Addr) (sc dc : Nat) (raw turn : Int) (hra : 0 ≤ raw ∧ raw < 256) (htu : 0 ≤ turn ∧ turn < 256) (w : World) (hG : GmAt w g sa da) (hF : GmBig g) (hcap : g.deps.length ≤ dc) : Calls Try.prog 5 #[gmV g sa sc da dc, .int .u8 raw, .int .u8 turn] w (RetB (.bool true) w) := by
  have HCAP0 := Lib.hid hcap
  clear hcap
  have HG := Lib.hid hG
  have HF := Lib.hid hF
  clear hG hF
  go_enter Try.func5, Try.ntmps5
  go_wp2_with fail
  refine calls_named ?_
  intro w0 hw0
  obtain ⟨hbx, _, hx, _⟩ := alloc1 w [.slice sa g.starts.length sc, .slice da g.deps.length dc, .int .i64 g.budget] 25 w0 hw0
  have HX := Lib.hid hx
  have HBX := Lib.hid hbx
  clear hw0 hx hbx
  refine Calls.mono (head_any w0) ?_
  rintro e w1 ⟨rfl, hb1⟩
  have HB1 := Lib.hid (HBX.out.trans (hb1.mono HBX.out.size))
  have hx1 := HX.out.later hb1
  have HX1 := Lib.hid hx1
  have c0 := (hx1 0 _ rfl).1
  have c1 := (hx1 1 _ rfl).1
  have c2 := (hx1 2 _ rfl).1
  clear hb1 hx1
  go_wp2_with fail
  refine Calls.mono (few_any g sa da sc dc w1 (HG.out.later HB1.out) HF.out) ?_
  rintro e w2 ⟨rfl, hb2⟩
  have HB2 := Lib.hid (HB1.out.trans (hb2.mono HB1.out.size))
  have hx2 := HX1.out.later hb2
  have HX2 := Lib.hid hx2
  clear c0 c1 c2
  have c0 := (hx2 0 _ rfl).1
  have c1 := (hx2 1 _ rfl).1
  have c2 := (hx2 2 _ rfl).1
  clear hb2 hx2
  cases hfew : fewB g
  · clear hfew
    go_wp2_with fail
    go_ret
    exact retB rfl HB2.out
  obtain ⟨hv, hsm, h6, h4⟩ := fewB_of hfew
  have HV := Lib.hid hv
  have HSM := Lib.hid hsm
  have H64 := Lib.hid (And.intro h6 h4)
  have HFW := Lib.hid (VG.few hv)
  have HG2 := Lib.hid (HG.out.later HB2.out)
  clear hfew hv hsm h6 h4
  obtain ⟨n, hn⟩ : ∃ n, n = g.starts.length := ⟨_, rfl⟩
  obtain ⟨nd, hnd⟩ : ∃ n, n = g.deps.length := ⟨_, rfl⟩
  obtain ⟨bu, hbu⟩ : ∃ n, n = g.budget := ⟨_, rfl⟩
  have hn4 : n ≤ 4 := by rw [hn]; exact H64.out.2
  have hnd6 : nd ≤ 6 := by rw [hnd]; exact H64.out.1
  have hb3 : 0 ≤ bu ∧ bu ≤ 3 := by rw [hbu]; exact ⟨HV.out.2.2.1, HV.out.2.2.2.1⟩
  rw [← hn] at c0
  rw [← hnd] at c1
  rw [← hbu] at c2
  have HN := Lib.hid hn
  have HND := Lib.hid hnd
  have HBU := Lib.hid hbu
  have HCAP := Lib.hid (show nd ≤ dc from by rw [hnd]; exact HCAP0.out)
  clear hn hnd hbu
  rcases Nat.eq_zero_or_pos n with h0 | h0
  · subst h0
    go_wp2_with fail
    go_ret
    exact retB rfl HB2.out
  rcases Nat.eq_zero_or_pos nd with h1 | h1
  · subst h1
    have en : ((n : Int) == (0 : Int)) = false := by simp; omega
    have em : ¬ n = 0 := by omega
    go_wp2_with fail
    go_ret
    exact retB rfl HB2.out
  have en : ((n : Int) == (0 : Int)) = false := by simp; omega
  have em : ¬ n = 0 := by omega
  have dn : ((nd : Int) == (0 : Int)) = false := by simp; omega
  have dm : ¬ nd = 0 := by omega
  obtain ⟨v, hv, hvn⟩ : ∃ v : Nat, raw.tmod (n : Int) = (v : Int) ∧ v < n := by
    have h1 := Int.tmod_nonneg (n : Int) hra.1
    have h2 := Int.tmod_lt_of_pos raw (show (0 : Int) < (n : Int) by omega)
    exact ⟨(raw.tmod (n : Int)).toNat, by omega, by omega⟩
  obtain ⟨t, ht, htn⟩ : ∃ t : Nat, turn.tmod (nd : Int) = (t : Int) ∧ t < nd := by
    have h1 := Int.tmod_nonneg (nd : Int) htu.1
    have h2 := Int.tmod_lt_of_pos turn (show (0 : Int) < (nd : Int) by omega)
    exact ⟨(turn.tmod (nd : Int)).toNat, by omega, by omega⟩
  have hw8 : IntKind.i64.wrap raw = raw := IntWalk.i64_in _ (by omega)
  have hw9 : IntKind.i64.wrap turn = turn := IntWalk.i64_in _ (by omega)
  have hw10 : IntKind.i64.wrap (v : Int) = v := IntWalk.i64_in _ (by omega)
  have hw11 : IntKind.i64.wrap (t : Int) = t := IntWalk.i64_in _ (by omega)
  obtain ⟨x, hx⟩ : ∃ x, x = WG g (beginS g) := ⟨_, rfl⟩
  have HX0 := Lib.hid hx
  have HVL := Lib.hid (show ∀ (h : Gm) (a1 a2 : Option Addr) (b1 b2 l1 l2 : Nat) (bb : Int) (wy : World), GmAt wy h a1 a2 → l1 = h.starts.length → l2 = h.deps.length → bb = h.budget → GmFew h → Calls Try.prog 11 #[.agg #[.slice a1 l1 b1, .slice a2 l2 b2, .int .i64 bb]] wy (RetB (.tuple #[.int .i64 (valG h).1, .int .i64 (valG h).2]) wy) from fun h a1 a2 b1 b2 l1 l2 bb wy hg e1 e2 e3 hf => by
    subst e1 e2 e3
    exact value_any h a1 a2 b1 b2 wy hg hf)
  have HVX := Lib.hid (show valG g = (x, 0) from by rw [hx]; exact valG_ok HV.out HSM.out)
  have HNZ := Lib.hid (And.intro h0 h1)
  have HVT := Lib.hid (And.intro hvn htn)
  clear hx h0 h1
  have hS : ∀ wy : World, Below w2.heap.size w2 wy → wy.cell? ⟨w.heap.size, 0, none⟩ = some (.slice sa n sc) ∧ wy.cell? ⟨w.heap.size, 1, none⟩ = some (.slice da nd dc) ∧ wy.cell? ⟨w.heap.size, 2, none⟩ = some (.int .i64 bu) := fun wy hy => ⟨cell_later hy c0, cell_later hy c1, cell_later hy c2⟩
  go_upto_region 4 with fail
  refine wp_flow_s [] [] (by kernel_rfl) (by kernel_rfl) (by kernel_rfl) ?_
  repeat (first | ((with_reducible refine Flow.pure hS StayG.nil (v := ?_) ?_ ?_ ?_ ?_); rotate_left 1; (focus kernel_rfl); (focus (intro _; rfl)); (focus (intro β wx hSw; (try dsimp only at hSw); go_simp; (try with_reducible rfl); done)); (try simp only [Act.put, List.setIfInBounds_toArray, List.set_cons_zero, List.set_cons_succ, Nat.reduceAdd])) | ((with_reducible refine Flow.skip StayG.nil ?_ ?_ ?_); (focus kernel_rfl); (focus (intro _; rfl)); (try simp only [Act.put, List.setIfInBounds_toArray, List.set_cons_zero, List.set_cons_succ, Nat.reduceAdd])))
  ((with_reducible refine Flow.stop ?_); dsimp only; intro β w4 hI4)
  have HB4 := Lib.hid (HB2.out.trans (hI4.below.mono HB2.out.size))
  have HX4 := Lib.hid (HX2.out.later hI4.below)
  have HG4 := Lib.hid (HG2.out.later hI4.below)
  obtain ⟨d0, d1, d2⟩ := hS w4 hI4.below
  clear hS hI4 c0 c1 c2
  go_wp2_with fail
  refine Calls.mono (HVL.out g sa da sc dc n nd bu w4 HG4.out HN.out HND.out HBU.out HFW.out) ?_
  rintro e w5 ⟨rfl, hb5⟩
  rw [HVX.out]
  have HB5 := Lib.hid (HB4.out.trans (hb5.mono HB4.out.size))
  have HX5 := Lib.hid (HX4.out.later hb5)
  have HG5 := Lib.hid (HG4.out.later hb5)
  clear d0 d1 d2 hb5
  have d0 := (HX5.out 0 _ rfl).1
  have d1 := (HX5.out 1 _ rfl).1
  have d2 := (HX5.out 2 _ rfl).1
  rw [← HN.out] at d0
  rw [← HND.out] at d1
  rw [← HBU.out] at d2
  go_upto_region 9 with fail
  refine wp_named ?_
  intro w6 hw6
  obtain ⟨O1, hO1⟩ : ∃ O, O = w5.heap.size := ⟨_, rfl⟩
  obtain ⟨hb6, hs6, hx6, _⟩ := alloc1 w5 [.slice sa n sc, .slice da nd dc, .int .i64 bu] 25 w6 hw6
  rw [← hO1] at hx6 ⊢
  obtain ⟨gb, lc, w7, hr, ho, hb7⟩ := copy_app (E := EI) w6 g.starts sa sc (Ints.el (HG5.out.later hb6).s) (by have := HN.out; omega) (by have := HN.out; have := HNZ.out.1; omega) 22
  rw [← HN.out] at hr ho
  obtain ⟨hb8, hx8, ho8⟩ := stA hb6 hO1 (by omega) hx6 0 (by simp) hb7 ho
  have hc7 := ((hx6.later hb7) 0 _ rfl).1
  have hf7 := ((hx6.later hb7) 0 _ rfl).2
  have d0' := cell_later hb6 d0
  have hlw : w.heap.size < w6.heap.size := World.block_lt_of_cell? _ _ d0'
  have HO1 := Lib.hid hO1
  have HR := Lib.hid hr
  have HX8 := Lib.hid hx8
  have HO8 := Lib.hid ho8
  have HB8 := Lib.hid hb8
  clear hr ho hb7 hb8 hx8 ho8 hx6 hw6 d0 d1 d2 hs6 hb6 hO1
  go_upto_region 10 with (at_builtin; go_loud (refine wpList_app_eq rfl _ _ _ rfl _ _ rfl rfl HR.out ?_))
  refine wp_named ?_
  intro w8 hw8
  rw [← hw8] at HX8 HO8 HB8
  clear hw8 hc7 hf7 d0' hlw
  obtain ⟨_, _, e8, _, _, hat, _⟩ := HO8.out.at
  obtain ⟨_, _, e9, cl⟩ := hat.ints v (by have := HN.out; omega)
  rw [← (Value.slice.inj e8).1] at e9
  cases e9
  rw [Nat.zero_add] at cl
  have clf : w8.frozen? ⟨gb, v, none⟩ = false := by
    obtain ⟨cur, hcur⟩ := HO8.out.ty (g := gb) rfl
    simp [World.frozen?, hcur]
  have k8 := (HX8.out 0 _ rfl).1
  obtain ⟨s, hs⟩ : ∃ s, s = ig g.starts v := ⟨_, rfl⟩
  have hs2 : 0 ≤ s ∧ s ≤ 12 := by rw [hs]; exact HV.out.2.2.2.2.1 v (by have := HN.out; omega)
  rw [← hs] at cl
  have ws1 : IntKind.i64.wrap (s + 1) = s + 1 := IntWalk.i64_in _ (by omega)
  have p1 : (v : Int) < (n : Int) := by omega
  have p0 : (0 : Int) ≤ (v : Int) := by omega
  have HS := Lib.hid hs
  clear hat e8 hs hs2
  go_upto_region 11 with fail
  refine wp_named ?_
  intro w9 hw9
  have hgb : O1 + 1 ≤ gb := (HO8.out.lt gb rfl).1
  have ho9 : EI.Own w9 (O1 + 1) (.slice (some ⟨gb, 0, none⟩) n lc) (moreG g v).starts := by
    rw [hw9]
    show EI.Own _ _ _ (g.starts.set v (ig g.starts v + 1))
    rw [← HS.out]
    exact own_set HO8.out v (s + 1)
  have hx9 : BoxAt w9 O1 [.slice (some ⟨gb, 0, none⟩) n lc, .slice da nd dc, .int .i64 bu] := by
    rw [hw9]
    exact HX8.out.block (heap_setCell_other w8 ⟨gb, v, none⟩ O1 _ (by intro e; have e' : O1 = gb := e; omega))
  have hb9 : Below w5.heap.size w5 w9 := by rw [hw9]; exact HB8.out.setCell (p := ⟨gb, v, none⟩) (by show w5.heap.size ≤ gb; have := HO1.out; omega) _
  have HO9 := Lib.hid ho9
  have HX9 := Lib.hid hx9
  have HBW9 := Lib.hid (HB5.out.trans (hb9.mono HB5.out.size))
  have HG9 := Lib.hid (HG5.out.later hb9)
  have HXX9 := Lib.hid (HX5.out.later hb9)
  clear hw9 ho9 hx9 hb9 cl clf k8 hgb
  have d0 := (HXX9.out 0 _ rfl).1
  have d1 := (HXX9.out 1 _ rfl).1
  have d2 := (HXX9.out 2 _ rfl).1
  rw [← HN.out] at d0
  rw [← HND.out] at d1
  rw [← HBU.out] at d2
  go_upto_region 12 with fail
  refine wp_named ?_
  intro w10 hw10
  obtain ⟨O2, hO2⟩ : ∃ O, O = w9.heap.size := ⟨_, rfl⟩
  obtain ⟨hb10, hs10, hx10, _⟩ := alloc1 w9 [.slice sa n sc, .slice da nd dc, .int .i64 bu] 25 w10 hw10
  rw [← hO2] at hx10 ⊢
  have hrw : ∃ (rws : List (Option Addr × Nat × Nat)), rws.length = nd ∧ ER.At w9 da rws ∧ ∀ i (h : i < rws.length), rws[i].2.1 = (g.deps.getD i []).length ∧ Ints w9 rws[i].1 (g.deps.getD i []) := rows_of HG9.out.d HND.out.symm
  obtain ⟨rws, hrl, hrat, hri⟩ := hrw
  obtain ⟨gd, ld, w11, hr, ho, hb11⟩ := copy_app (E := ER) w10 rws da dc (hrat.later hb10) (by omega) (by have := HNZ.out.2; omega) 23
  rw [hrl] at hr ho
  obtain ⟨hb12, hx12, ho12⟩ := stA hb10 hO2 (by omega) hx10 1 (by simp) hb11 ho
  have hc11 := ((hx10.later hb11) 1 _ rfl).1
  have hf11 := ((hx10.later hb11) 1 _ rfl).2
  have d1' := cell_later hb10 d1
  have hlw : w.heap.size < w10.heap.size := World.block_lt_of_cell? _ _ d1'
  have HR := Lib.hid hr
  have HX12 := Lib.hid hx12
  have HO12 := Lib.hid ho12
  have HB12 := Lib.hid hb12
  have HO2 := Lib.hid hO2
  have HRI := Lib.hid hri
  have HRL := Lib.hid hrl
  clear hr ho hb11 hb12 hx12 ho12 hx10 hw10 d0 d1 d2 hs10 hb10 hO2 hrat hri hrl
  go_upto_region 13 with (at_builtin; go_loud (refine wpList_app_eq rfl _ _ _ rfl _ _ rfl rfl HR.out ?_))
  refine wp_named ?_
  intro w12 hw12
  rw [← hw12] at HX12 HO12 HB12
  clear hw12 hc11 hf11 d1' hlw
  obtain ⟨db, doff, ra, rc, rfl, hrow, hRI⟩ := HG.out.d t (by have := HND.out; omega)
  obtain ⟨d, hd⟩ : ∃ d, d = g.deps.getD t [] := ⟨_, rfl⟩
  rw [← hd] at hrow hRI
  have hok : okDep g.starts.length d := by rw [hd]; exact HV.out.2.2.2.2.2 t (by have := HND.out; omega)
  obtain ⟨m, hm⟩ : ∃ m, m = d.length := ⟨_, rfl⟩
  have hm4 : m ≤ 4 := by have h1 := okDep_len hok; have h2 := HN.out; omega
  rw [← hm] at hrow
  have HBW12 := Lib.hid (HBW9.out.trans (HB12.out.mono HBW9.out.size))
  have HD := Lib.hid hd
  have HM := Lib.hid hm
  have HOK := Lib.hid hok
  have HROW := Lib.hid (cell_later HBW12.out hrow)
  have HRI2 := Lib.hid (hRI.later HBW12.out)
  have HXX12 := Lib.hid (HXX9.out.later HB12.out)
  have p2 : (t : Int) < (nd : Int) := by omega
  have p3 : (0 : Int) ≤ (t : Int) := by omega
  clear hd hok hm hrow hRI
  go_wp2_with fail
  go_loopg [14, 15] (n + 1) (fun gk v14 v15 wr => ∃ (k : Nat) (a : Option Addr) (c : Nat), k ≤ n ∧ gk + k = n + 1 ∧ v15 = .int .i64 k ∧ v14 = .slice a (alL d v k).length c ∧ EI.Own wr w12.heap.size (.slice a (alL d v k).length c) (alL d v k) ∧ Below w12.heap.size w12 wr)
  case atStart => exact ⟨0, none, 0, by omega, by omega, rfl, rfl, El.Own.nil _ _ _, Below.refl _ _⟩
  case round =>
    obtain ⟨k, a, c, hk, hgk, rfl, rfl, hown, hbr⟩ := hrel
    obtain ⟨wq, hwq⟩ : ∃ wq, wq = wr := ⟨_, rfl⟩
    subst hwq
    obtain ⟨ll, hll⟩ : ∃ ll, ll = (alL d v k).length := ⟨_, rfl⟩
    rw [← hll] at hown ⊢
    have HOW := Lib.hid hown
    have HBR := Lib.hid hbr
    have HLL := Lib.hid hll
    have d0 := cell_later hbr (HXX12.out 0 _ rfl).1
    have d1 := cell_later hbr (HXX12.out 1 _ rfl).1
    rw [← HN.out] at d0
    rw [← HND.out] at d1
    have dr := cell_later hbr HROW.out
    clear hown hbr hll
    by_cases hlt : k < n
    · obtain ⟨B0, hB0⟩ : ∃ B, B = inV [] v k := ⟨_, rfl⟩
      have e0 : decide (k = v) = B0 := by rw [hB0]; simp [inV]
      have e1 : ((k : Int) == (v : Int)) = B0 := by rw [← e0, Bool.eq_iff_iff]; simp; try omega
      have e2 : decide ((k : Int) = (v : Int)) = B0 := by rw [← e0, Bool.eq_iff_iff]; simp; try omega
      have e3 : (k == v) = B0 := by rw [← e0, Bool.eq_iff_iff]; simp; try omega
      have HB0 := Lib.hid hB0
      have q1 : (k : Int) < (n : Int) := by omega
      have k1 : IntKind.i64.wrap ((k : Int) + 1) = (k : Int) + 1 := IntWalk.i64_in _ (by omega)
      have HLT := Lib.hid hlt
      clear hB0 hlt
      go_upto_region 19 with fail
      clear e0 e1 e2 e3
      go_wp2_with fail
      go_loopg [16, 17] (m + 1) (fun gj v16 v17 wx => ∃ j : Nat, j ≤ m ∧ gj + j = m + 1 ∧ v17 = .int .i64 j ∧ v16 = .bool (inV (d.take j) v k) ∧ wq = wx)
      case atStart => exact ⟨0, by omega, by omega, rfl, by rw [HB0.out]; rfl, rfl⟩
      case round =>
        obtain ⟨j, hj, hgj, rfl, rfl, rfl⟩ := hrel
        obtain ⟨B, hB⟩ : ∃ B, B = inV (d.take j) v k := ⟨_, rfl⟩
        rw [← hB]
        have HBJ := Lib.hid hB
        clear hB
        by_cases hlj : j < m
        · obtain ⟨eb, eo, rfl, fp⟩ := HRI2.out.fam (by have := HM.out; omega)
          have kq := cell_later HBR.out (fp j (by have := HM.out; omega))
          obtain ⟨y, hy⟩ : ∃ y, y = ig d j := ⟨_, rfl⟩
          rw [← hy] at kq
          obtain ⟨C, hC⟩ : ∃ C, C = decide (y = (k : Int)) := ⟨_, rfl⟩
          have f1 : (y == (k : Int)) = C := by rw [hC, Bool.eq_iff_iff]; simp
          have HNX := Lib.hid (show inV (d.take (j + 1)) v k = (B || C) from by
            rw [HBJ.out, hC, hy]
            have hjd : j < d.length := by have := HM.out; omega
            rw [take_snoc hjd]
            unfold inV
            rw [List.any_append, Bool.or_assoc, ← ig_lt hjd]
            simp)
          have f2 := hC.symm
          have j1 : (j : Int) < (m : Int) := by omega
          have j0 : (0 : Int) ≤ (j : Int) := by omega
          have HLJ := Lib.hid hlj
          clear fp hy hC hlj
          cases B
          · go_wp2_with fail
            go_roundg (m - j)
            case measure => have := HLJ.out; omega
            case rel => exact ⟨j + 1, HLJ.out, by have := HLJ.out; omega, by go_num, by rw [HNX.out]; rfl, rfl⟩
          · go_wp2_with fail
            go_roundg (m - j)
            case measure => have := HLJ.out; omega
            case rel => exact ⟨j + 1, HLJ.out, by have := HLJ.out; omega, by go_num, by rw [HNX.out]; rfl, rfl⟩
        · obtain rfl : m = j := by omega
          have HIV := Lib.hid (show B = inV d v k from by rw [HBJ.out, List.take_of_length_le (by have := HM.out; omega)])
          cases B
          · go_wp2_with fail
            go_roundg (n - k)
            case measure => have := HLT.out; omega
            case rel => exact ⟨k + 1, a, c, HLT.out, by have := HLT.out; omega, by go_num, by rw [alL_succ, ← HIV.out, HLL.out]; simp, by rw [alL_succ, ← HIV.out]; have := HOW.out; rw [HLL.out] at this; simpa using this, HBR.out⟩
          · have hA : Below wq.heap.size wq (wq.alloc (.cells #[.int .i64 (k : Int)] 3)) := (Below.refl _ _).alloc (Nat.le_refl _) _
            have hEm : Below w12.heap.size w12 (wq.alloc (.cells #[.int .i64 (k : Int)] 3)) := HBR.out.trans (hA.mono HBR.out.size)
            obtain ⟨v', w14, hr, ho, hg, _⟩ := El.app (E := EI) _ w12.heap.size _ _ [(k : Int)] (HOW.out.later hA) (some ⟨wq.heap.size, 0, none⟩) 1 (El.one_at (BoxAt.new wq _ _)) (by have := alL_len d v k; have := HLT.out; simp; omega) hEm.size 22
            simp only [List.length_cons, List.length_nil, Nat.zero_add] at hr
            have hb5 : Below w12.heap.size w12 w14 := hEm.grown hg hEm.size (fun b hb => (HOW.out.lt b hb).1)
            have hnx : alL d v k ++ [(k : Int)] = alL d v (k + 1) := by rw [alL_succ, ← HIV.out]; simp
            rw [hnx] at ho
            obtain ⟨a5, c5, e5, _⟩ := ho.at
            obtain ⟨lk, hlk⟩ : ∃ lk, lk = (alL d v (k + 1)).length := ⟨_, rfl⟩
            rw [← hlk] at e5
            subst e5
            have HR := Lib.hid hr
            have HO5 := Lib.hid ho
            have HB5 := Lib.hid hb5
            have HLK := Lib.hid hlk
            clear hA hEm hr ho hg hb5 hnx hlk
            go_wp2_with (at_builtin; go_loud (refine wpList_app_eq rfl _ _ _ rfl _ _ rfl rfl HR.out ?_))
            go_roundg (n - k)
            case measure => have := HLT.out; omega
            case rel => exact ⟨k + 1, a5, c5, HLT.out, by have := HLT.out; omega, by go_num, by rw [HLK.out], by rw [← HLK.out]; exact HO5.out, HB5.out⟩
    · obtain rfl : n = k := by omega
      have hx13 := HX12.out.later HBR.out
      have ho13 := HO12.out.later HBR.out
      obtain ⟨_, _, e8, _, _, hat, _⟩ := ho13.at
      have hfr : wq.frozen? ⟨gd, t, none⟩ = false := by
        obtain ⟨cur, hcur⟩ := ho13.ty (g := gd) rfl
        simp [World.frozen?, hcur]
      have hct : ∃ u, wq.cell? ⟨gd, t, none⟩ = some u := by
        have hj' : t < rws.length := by rw [HRL.out]; omega
        have hu : (rws.flatMap ER.cf)[t]? = some (.slice rws[t].1 rws[t].2.1 rws[t].2.2) := by
          have h := ER.fat rws t hj' 0 (by decide)
          rw [show t * ER.S + 0 = t by show t * 1 + 0 = t; omega] at h
          rw [h]
          rfl
        obtain ⟨b, off, ea, hcell⟩ := hat t _ hu
        rw [← (Value.slice.inj e8).1] at ea
        cases ea
        rw [Nat.zero_add] at hcell
        exact ⟨_, hcell⟩
      obtain ⟨u0', hcu⟩ := hct
      have k1 := (hx13 1 _ rfl).1
      have HX13 := Lib.hid hx13
      have HO13 := Lib.hid ho13
      clear hat e8 hx13 ho13 dr hk hgk hlt
      go_upto_region 25 with fail
      refine wp_named ?_
      intro w13 hw13
      have hgd : O2 + 1 ≤ gd := (HO12.out.lt gd rfl).1
      have hO1s : O1 < w9.heap.size := HX9.out.lt
      have hch : Chg (fun b => b = gd) wq w13 := by rw [hw13]; exact Chg.setCell (S := fun b => b = gd) (Chg.refl _ _) (p := ⟨gd, t, none⟩) (fun _ => rfl) _
      have hb9q : Below w9.heap.size w9 wq := HB12.out.trans (HBR.out.mono HB12.out.size)
      have hb13 : Below w9.heap.size w9 w13 := hb9q.trans (hch.below hb9q.size fun b hb => by have := HO2.out; omega)
      have hx13 : BoxAt w13 O2 [.slice sa n sc, .slice (some ⟨gd, 0, none⟩) nd ld, .int .i64 bu] := HX13.out.chg hch (by omega) HX13.out.lt
      have ho13 : ER.Own w13 (O2 + 1) (.slice (some ⟨gd, 0, none⟩) nd ld) (rws.set t (a, ll, c)) := by rw [hw13]; exact own_setR HO13.out t (a, ll, c)
      have hol : EI.Own w13 w12.heap.size (.slice a ll c) (alL d v n) := HOW.out.block fun b hb => hch.block b (HOW.out.lt b hb).2 (by have h1 := (HOW.out.lt b hb).1; have h2 := (HO12.out.lt gd rfl).2; omega)
      have hga : GmAt w13 (allowG g v t) sa (some ⟨gd, 0, none⟩) := by
        obtain ⟨_, _, e8, _, _, hat, _⟩ := ho13.at
        rw [← (Value.slice.inj e8).1] at hat
        refine ⟨(HG9.out.later hb13).s, rows2_of hat (by show _ = (g.deps.set _ _).length; rw [List.length_set, List.length_set, HRL.out, HND.out]) fun i hi => ?_⟩
        rw [List.length_set] at hi
        have hid : i < g.deps.length := by have := HRL.out; have := HND.out; omega
        have eL : (allowG g v t).deps.getD i [] = if t = i then alL (dg g t) v g.starts.length else g.deps.getD i [] := dg_set (g := g) (s := g.starts) (b := g.budget) hid
        rw [eL]
        by_cases hti : t = i
        · subst hti
          rw [if_pos rfl]
          simp only [List.getElem_set_self]
          have edd : dg g t = d := HD.out.symm
          rw [edd, ← HN.out]
          refine ⟨HLL.out, ?_⟩
          obtain ⟨_, _, e9, _, _, hat9, _⟩ := hol.at
          rw [(Value.slice.inj e9).1]
          exact hat9.ints
        · rw [if_neg hti]
          simp only [List.getElem_set_ne hti]
          exact ⟨(HRI.out i hi).1, (HRI.out i hi).2.later hb13⟩
      have HGA := Lib.hid hga
      have HX13' := Lib.hid hx13
      have HXX13 := Lib.hid (HXX9.out.later hb13)
      have HX19 := Lib.hid (HX9.out.later hb13)
      have hgm : GmAt w13 (moreG g v) (some ⟨gb, 0, none⟩) (some ⟨db, doff, none⟩) := by
        obtain ⟨_, _, e8, _, _, hat, _⟩ := (HO9.out.later hb13).at
        rw [← (Value.slice.inj e8).1] at hat
        exact ⟨hat.ints, (HG9.out.later hb13).d⟩
      have HGM := Lib.hid hgm
      have HG13 := Lib.hid (HG9.out.later hb13)
      have HB13 := Lib.hid (HBW9.out.trans (hb13.mono HBW9.out.size))
      clear hw13 hgd hO1s hch hb9q hb13 hx13 ho13 hol hga hgm hcu hfr k1 d0 d1 HX13 HO13
      have d0 := (HXX13.out 0 _ rfl).1
      have d1 := (HXX13.out 1 _ rfl).1
      have d2 := (HXX13.out 2 _ rfl).1
      rw [← HN.out] at d0
      rw [← HND.out] at d1
      rw [← HBU.out] at d2
      go_upto_region 26 with fail
      refine wp_named ?_
      intro w14 hw14
      obtain ⟨O3, hO3⟩ : ∃ O, O = w13.heap.size := ⟨_, rfl⟩
      obtain ⟨hb14, hs14, hx14, _⟩ := alloc1 w13 [.slice sa n sc, .slice (some ⟨db, doff, none⟩) nd dc, .int .i64 bu] 25 w14 hw14
      rw [← hO3] at hx14 ⊢
      have o2 := (hx14 2 _ rfl).1
      have o2f := (hx14 2 _ rfl).2
      have wb1 : IntKind.i64.wrap (bu + 1) = bu + 1 := IntWalk.i64_in _ (by omega)
      have HX14 := Lib.hid hx14
      have HB14 := Lib.hid hb14
      have HO3 := Lib.hid hO3
      have HS14 := Lib.hid hs14
      clear hw14 hb14 hs14 hx14 d0 d1 d2 hO3
      go_upto_region 27 with fail
      refine wp_named ?_
      intro w15 hw15
      have hb15 : Below w13.heap.size w13 w15 := by rw [hw15]; exact HB14.out.setCell (p := ⟨O3, 2, none⟩) (by show w13.heap.size ≤ O3; have := HO3.out; omega) _
      have hx15 : BoxAt w15 O3 [.slice sa n sc, .slice (some ⟨db, doff, none⟩) nd dc, .int .i64 (bu + 1)] := by rw [hw15]; exact HX14.out.put 2 _ (by simp)
      have HX15 := Lib.hid hx15
      have HB15 := Lib.hid hb15
      clear hw15 o2 o2f hb15 hx15
      have d0 := ((HXX13.out.later HB15.out) 0 _ rfl).1
      have d1 := ((HXX13.out.later HB15.out) 1 _ rfl).1
      have d2 := ((HXX13.out.later HB15.out) 2 _ rfl).1
      rw [← HN.out] at d0
      rw [← HND.out] at d1
      rw [← HBU.out] at d2
      go_upto_region 28 with fail
      refine wp_named ?_
      intro w16 hw16
      obtain ⟨O4, hO4⟩ : ∃ O, O = w15.heap.size := ⟨_, rfl⟩
      obtain ⟨hb16, hs16, hx16, _⟩ := alloc1 w15 [.slice sa n sc, .slice (some ⟨db, doff, none⟩) nd dc, .int .i64 bu] 25 w16 hw16
      rw [← hO4] at hx16 ⊢
      have o1 := (hx16 1 _ rfl).1
      have o1f := (hx16 1 _ rfl).2
      obtain ⟨nl, hnl⟩ : ∃ nl : Nat, nd = nl + 1 := ⟨nd - 1, by omega⟩
      have wl1 : IntKind.i64.wrap ((nd : Int) - 1) = (nl : Int) := by rw [IntWalk.i64_in _ (by omega)]; omega
      have hld1 : (nl : Int) ≤ (dc : Int) := by have := HCAP.out; omega
      have hld2 : nl ≤ dc := by omega
      have HX16 := Lib.hid hx16
      have HB16 := Lib.hid hb16
      have HO4 := Lib.hid hO4
      have HNL := Lib.hid hnl
      have d1x := cell_later hb16 d1
      clear hw16 hb16 hs16 hx16 d0 d1 d2 hO4 hnl
      go_upto_region 29 with fail
      refine wp_named ?_
      intro w17 hw17
      have hb17' : Below w15.heap.size w15 w17 := by rw [hw17]; exact HB16.out.setCell (p := ⟨O4, 1, none⟩) (by show w15.heap.size ≤ O4; have := HO4.out; omega) _
      have hx4 : BoxAt w17 O4 [.slice sa n sc, .slice (some ⟨db, doff, none⟩) nl dc, .int .i64 bu] := by rw [hw17]; exact HX16.out.put 1 _ (by simp)
      have hb17 : Below w13.heap.size w13 w17 := HB15.out.trans (hb17'.mono HB15.out.size)
      have HX1 := Lib.hid (HX19.out.later hb17)
      have HX2x := Lib.hid (HX13'.out.later hb17)
      have HX3 := Lib.hid (HX15.out.later hb17')
      have HX4x := Lib.hid hx4
      have HGMx := Lib.hid (HGM.out.later hb17)
      have HGAx := Lib.hid (HGA.out.later hb17)
      have HGx := Lib.hid (HG13.out.later hb17)
      have HB17 := Lib.hid (HB13.out.trans (hb17.mono HB13.out.size))
      have Hw17 := Lib.hid (Below.refl w17.heap.size w17)
      clear hw17 hb17' hx4 hb17 o1 o1f d1x
      have hx12 : 0 ≤ x ∧ x ≤ 12 := by
        rw [HX0.out]
        have h1 := ((val_LeV HV.out _).1 (Int.le_refl _)).nonneg
        have h2 := (val_LeV HV.out _).2 (LeV.all g.deps g.starts g.budget)
        have h3 := HV.out.2.1
        omega
      obtain ⟨A, F, hAF, hA⟩ : ∃ A F : Int, valG (moreG g v) = (A, F) ∧ (¬ F = 0 ∨ F = 0 ∧ A ≤ x) := ⟨_, _, rfl, by rw [HX0.out]; exact more_vals HV.out v⟩
      obtain ⟨C, F2, hCF, hC⟩ : ∃ C F : Int, valG (budG g) = (C, F) ∧ (¬ F = 0 ∨ F = 0 ∧ x ≤ C) := ⟨_, _, rfl, by rw [HX0.out]; exact bud_vals HV.out⟩
      obtain ⟨B, hBF, hB⟩ : ∃ B : Int, valG (allowG g v t) = (B, 0) ∧ B ≤ x := ⟨_, valG_ok (allow_vg HV.out v t) (allow_sm HV.out HSM.out v t), by rw [HX0.out]; exact allow_le HV.out (by have := HND.out; have := HVT.out.2; omega)⟩
      obtain ⟨D, hDF, hD⟩ : ∃ D : Int, valG (shortG g) = (D, 0) ∧ (D ≤ x ∧ x ≤ D + 1) := ⟨_, valG_ok (short_vg HV.out) (short_sm HV.out HSM.out), by rw [HX0.out]; exact short_le HV.out (by have := HND.out; have := HNZ.out.2; omega)⟩
      have HAF := Lib.hid hAF
      have HCF := Lib.hid hCF
      have HBF := Lib.hid hBF
      have HDF := Lib.hid hDF
      have HLA := Lib.hid hA
      have HLC := Lib.hid hC
      have HLB := Lib.hid hB
      have HLD := Lib.hid hD
      have HX12 := Lib.hid hx12
      have HSH := Lib.hid (show Rows2 w17 (some ⟨db, doff, none⟩) g.deps.dropLast from fun i hi => by
        rw [List.length_dropLast] at hi
        have e : g.deps.dropLast.getD i [] = g.deps.getD i [] := by
          rw [List.getD_eq_getElem?_getD, List.getD_eq_getElem?_getD, List.getElem?_dropLast, if_pos hi]
        rw [e]
        exact HGx.out.d i (by omega))
      clear hAF hA hCF hC hBF hB hDF hD hx12
      have c0 := ((HX1.out.later Hw17.out) 0 _ rfl).1
      have c1 := ((HX1.out.later Hw17.out) 1 _ rfl).1
      have c2 := ((HX1.out.later Hw17.out) 2 _ rfl).1
      go_wp2_with fail
      refine Calls.mono (HVL.out (moreG g v) (some ⟨gb, 0, none⟩) (some ⟨db, doff, none⟩) lc dc n nd (bu) w17 (HGMx.out.later Hw17.out) (by show n = (g.starts.set _ _).length; rw [List.length_set]; exact HN.out) (HND.out) (HBU.out) (⟨by show (g.starts.set _ _).length ≤ 1000; rw [List.length_set]; exact HFW.out.s, HFW.out.d, HFW.out.r⟩)) ?_
      rintro e w18 ⟨rfl, hbn⟩
      rw [HAF.out]
      have Hw18 := Lib.hid (Hw17.out.trans (hbn.mono Hw17.out.size))
      clear hbn c0 c1 c2
      have c0 := ((HX2x.out.later Hw18.out) 0 _ rfl).1
      have c1 := ((HX2x.out.later Hw18.out) 1 _ rfl).1
      have c2 := ((HX2x.out.later Hw18.out) 2 _ rfl).1
      go_wp2_with fail
      refine Calls.mono (HVL.out (allowG g v t) (sa) (some ⟨gd, 0, none⟩) sc ld n nd (bu) w18 (HGAx.out.later Hw18.out) (HN.out) (by show nd = (g.deps.set _ _).length; rw [List.length_set]; exact HND.out) (HBU.out) (VG.few (allow_vg HV.out v t))) ?_
      rintro e w19 ⟨rfl, hbn⟩
      rw [HBF.out]
      have Hw19 := Lib.hid (Hw18.out.trans (hbn.mono Hw18.out.size))
      clear hbn c0 c1 c2
      have c0 := ((HX3.out.later Hw19.out) 0 _ rfl).1
      have c1 := ((HX3.out.later Hw19.out) 1 _ rfl).1
      have c2 := ((HX3.out.later Hw19.out) 2 _ rfl).1
      go_wp2_with fail
      refine Calls.mono (HVL.out (budG g) (sa) (some ⟨db, doff, none⟩) sc dc n nd (bu + 1) w19 (⟨(HGx.out.later Hw19.out).s, (HGx.out.later Hw19.out).d⟩) (HN.out) (HND.out) (by show bu + 1 = g.budget + 1; rw [HBU.out]) (⟨HFW.out.s, HFW.out.d, HFW.out.r⟩)) ?_
      rintro e w20 ⟨rfl, hbn⟩
      rw [HCF.out]
      have Hw20 := Lib.hid (Hw19.out.trans (hbn.mono Hw19.out.size))
      clear hbn c0 c1 c2
      have c0 := ((HX4x.out.later Hw20.out) 0 _ rfl).1
      have c1 := ((HX4x.out.later Hw20.out) 1 _ rfl).1
      have c2 := ((HX4x.out.later Hw20.out) 2 _ rfl).1
      go_wp2_with fail
      refine Calls.mono (HVL.out (shortG g) (sa) (some ⟨db, doff, none⟩) sc dc n nl (bu) w20 (⟨(HGx.out.later Hw20.out).s, HSH.out.later Hw20.out⟩) (HN.out) (by show nl = g.deps.dropLast.length; rw [List.length_dropLast, ← HND.out, HNL.out]; omega) (HBU.out) (VG.few (short_vg HV.out))) ?_
      rintro e w21 ⟨rfl, hbn⟩
      rw [HDF.out]
      have Hw21 := Lib.hid (Hw20.out.trans (hbn.mono Hw20.out.size))
      clear hbn c0 c1 c2
      have HBE := Lib.hid (HB17.out.trans (Hw21.out.mono HB17.out.size))
      have wD : IntKind.i64.wrap (D + 1) = D + 1 := IntWalk.i64_in _ (by have := HX12.out; have := HLD.out; omega)
      have hB := HLB.out
      obtain ⟨hD1, hD2⟩ := HLD.out
      rcases HLA.out with hF | ⟨rfl, hA⟩
      · have eF : (F == (0 : Int)) = false := by simpa using hF
        rcases HLC.out with hF2 | ⟨rfl, hC⟩
        · have eF2 : (F2 == (0 : Int)) = false := by simpa using hF2
          go_wp2_with fail
          go_ret
          exact retB rfl HBE.out
        · go_wp2_with fail
          go_ret
          exact retB rfl HBE.out
      · rcases HLC.out with hF2 | ⟨rfl, hC⟩
        · have eF2 : (F2 == (0 : Int)) = false := by simpa using hF2
          go_wp2_with fail
          go_ret
          exact retB rfl HBE.out
        · go_wp2_with fail
          go_ret
          exact retB rfl HBE.out
theorem walk (W : World) (g : Gm) (ga : Option Addr) (gc : Nat) (gd : Option Addr) (ge : Nat) (gG : GmAt W g ga gd) (gB : GmBig g) (gC : g.deps.length ≤ ge) (r : Int) (ro : 0 ≤ r ∧ r < 256) (u : Int) (uo : 0 ≤ u ∧ u < 256) :
    Calls Try.prog 5 #[gmV g ga gc gd ge, .int .u8 r, .int .u8 u] W (RetB (.bool true) W) := all g ga gd gc ge r u ro uo W gG gB gC
end GameMore
namespace GameMore
set_option maxRecDepth 100000 in
theorem entry (H : Type) (enc : TypeId × Value → H) (W : World) (base : Nat) (args : Array Value) (ds : List (DataW H)) (p : List MemPlace)
    (hval : ∀ (j : Nat) t v, Try.f5.params[j]? = some t → args[j]? = some v → Value.okWide Try.prog W .any base t v)
    (hA : DataW.TrodAll enc Try.prog W 0 (fun _ => true) true Try.f5.params.toList args.toList ds p) :
    Calls Try.prog 5 args W (RetB (.bool true) W) := by
  rw [Try.params5] at hA hval
  obtain ⟨v0, vs0, d0, ds0, p0, q0, hargs, rfl, rfl, h0, r0⟩ := trodAll_cons hA
  obtain ⟨v1, vs1, d1, ds1, p1, q1, rfl, rfl, rfl, h1, r1⟩ := trodAll_cons r0
  obtain ⟨v2, vs2, d2, ds2, p2, q2, rfl, rfl, rfl, h2, r2⟩ := trodAll_cons r1
  obtain ⟨rfl, rfl, rfl⟩ := trodAll_nil r2
  obtain rfl : args = #[v0, v1, v2] := by cases args; simp_all
  obtain ⟨g, ga, gc, gd, ge, rfl, gG, gB, gC⟩ := open_gamec (hval 0 25 v0 rfl rfl) h0
  obtain ⟨r, rfl, ro⟩ := open_u8 (hval 1 5 v1 rfl rfl) h1
  obtain ⟨u, rfl, uo⟩ := open_u8 (hval 2 5 v2 rfl rfl) h2
  exact walk W g ga gc gd ge gG gB gC r ro u uo
end GameMore
/-! The step from the walk to the row of GameMore. -/
namespace GameMore
set_option maxRecDepth 100000 in
theorem lifted (os : Os) (started : os.Started) (H : Type) (enc : TypeId × Value → H) :
    ReturnsInHanded {} Try.checked os 5 .any (Rows.gameMoreSpec.pre6 enc Try.prog Try.f5 Rows.gameMoreRow.domain false) (Rows.gameMoreSpec.post enc Try.prog Try.f5 false true false false) := by
  refine returnsInHanded_of_change (C := Try.checked) own started (by kernel_rfl) Try.func5
    (ChangeSpec.witness6 (enc := enc) (C := Try.checked) false ⟨#[], #[.agg #[.slice none 0 0, .slice none 0 0, .int .i64 0], .int .u8 0, .int .u8 0], []⟩ 8 (by kernel_rfl) (by kernel_rfl) (by kernel_rfl) (by kernel_rfl)) ?_
  intro W base args ds gs before hval0 hW hcnd _
  have hval : ∀ (j : Nat) t v, Try.f5.params[j]? = some t → args[j]? = some v → Value.okWide Try.prog W .any base t v := hval0
  have hW' := hW
  obtain ⟨p, q, hA0, hV, rfl, hfz, hnd⟩ := hW
  have hA : DataW.TrodAll enc Try.prog W 0 (fun _ => true) true Try.f5.params.toList args.toList ds p := hA0
  obtain ⟨rfl, rfl⟩ := trodVars_none hV
  have hlen := trodAll_len _ _ _ _ hA
  obtain ⟨d0, d1, d2, rfl⟩ : ∃ d0 d1 d2, ds = [d0, d1, d2] := by
    rw [Try.params5] at hlen
    exact list3 hlen
  refine (entry H enc W base args [d0, d1, d2] p hval hA).mono fun e W' ⟨he, bel⟩ => ?_
  subst he
  exact ⟨_, rfl, _, _, _, [], _, [], hW', trodAll_mk1 (shut_bool Try.underlying4 _), readback laidOut _ _ _ _ (by rw [Try.params5]; exact of_decide_eq_true (by kernel_rfl)) hA bel, rfl, bel.frame _, fun h => by cases h⟩

theorem over : Rows.gameMoreRow.holds Try.pinned (OpenSpec.ofChange Rows.gameMoreSpec) :=
  OpenClaim.holds_of_wide 5 Try.f5 rfl rfl rfl rfl rfl rfl rfl ⟨rfl, rfl, rfl, rfl, rfl⟩ rfl rfl rfl rfl rfl (by kernel_rfl) Try.func5 (by kernel_rfl)
    (of_decide_eq_true (by kernel_rfl)) (by unfold Func.isWrapper; first | (rw [if_pos (by decide +kernel)]; kernel_rfl) | (rw [if_neg (by decide +kernel)]; exact ⟨rfl, rfl⟩))
    (fun os started H enc _ => lifted os started H enc)

/-- THE STATEMENT -/
theorem proved : Rows.GameMoreSaid := over
end GameMore
#print axioms GameMore.proved
end Go.Proofs.Ytlkknoooeldomaa
