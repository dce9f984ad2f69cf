


/- Package game: Plan. -/
import Derived.Test.YtgccankekflchaaGamQ
import Derived.Laws.EntriesVeiled
namespace Go.Proofs.Ytgccankekflchaa
open Go.RowKit Go.Maps Go.Shelf

theorem fol_all {K : FlK} (hK : FlD K) : ∀ (k : Nat) (s : St), Dom K.g s → s.turn + k = K.g.deps.length → FolC K s k
  | 0, s, _, hk => fol_end K s (by simpa using hk)
  | k + 1, s, hs, hk => fol_on K hK s k hs (by simpa [Int.add_assoc] using hk) fun s' hs' hk' => fol_all hK k s' hs' hk'
/-- what Plan answers -/
structure PlanOf (g : Gm) (P : List Pos) : Prop where
  p : P.Perm ((followL g g.deps.length (beginS g) []).map (posS g))
  s : P.Pairwise (fun x y => ¬ cmpP y x < 0)
def RetPl (g : Gm) (w : World) (e : Ending) (w' : World) : Prop := Below w.heap.size w w' ∧
  ((¬ VG g ∧ e = .returned (.tuple #[.slice none 0 0, .int .i64 1])) ∨ (VG g ∧ ¬ SmG g ∧ e = .returned (.tuple #[.slice none 0 0, .int .i64 7])) ∨
    (VG g ∧ SmG g ∧ ∃ a c l, e = .returned (.tuple #[.slice a l.length c, .int .i64 0]) ∧ PlanOf g (l.map (·.1)) ∧ EQ.At w' a l ∧ PsAll w' l ∧ l.length ≤ c ∧ c ≤ maxLen ∧ l.length ≤ 100000000000))
theorem alloc1 (w : World) (a : List Value) (ta : TypeId) (w1 : World) (h : w1 = w.alloc (.cells a.toArray ta)) : Below w.heap.size w w1 ∧ w1.heap.size = w.heap.size + 1 ∧ BoxAt w1 w.heap.size a ∧ IsTy w1 w.heap.size ta := by
  subst h
  exact ⟨(Below.refl _ _).alloc (Nat.le_refl _) _, by simp, BoxAt.new _ _ _, ⟨_, World.alloc_heap_new w (.cells a.toArray ta)⟩⟩
theorem alloc2t (w : World) (a b : List Value) (ta tb : TypeId) (w1 : World) (h : w1 = (w.alloc (.cells a.toArray ta)).alloc (.cells b.toArray tb)) :
    Below w.heap.size w w1 ∧ w1.heap.size = w.heap.size + 1 + 1 ∧ (BoxAt w1 w.heap.size a ∧ IsTy w1 w.heap.size ta) ∧ BoxAt w1 (w.heap.size + 1) b ∧ IsTy w1 (w.heap.size + 1) tb := by
  obtain ⟨x, hx⟩ : ∃ x, x = w.alloc (.cells a.toArray ta) := ⟨_, rfl⟩
  rw [← hx] at h
  obtain ⟨p1, p2, p3, p4⟩ := alloc1 w a ta x hx
  obtain ⟨q1, q2, q3, q4⟩ := alloc1 x b tb w1 h
  rw [p2] at q2 q3 q4
  exact ⟨p1.trans (q1.mono (by omega)), q2, ⟨p3.later q1, p4.block (q1.block _ p4.lt)⟩, q3, q4⟩
theorem allocF (w : World) (a c d : List Value) (ta tc td : TypeId) (w1 : World) (h : w1 = (((w.alloc (.cells a.toArray ta)).alloc (.map #[] 0)).alloc (.cells c.toArray tc)).alloc (.cells d.toArray td)) :
    Below w.heap.size w w1 ∧ w1.heap.size = w.heap.size + 1 + 1 + 1 + 1 ∧ (BoxAt w1 w.heap.size a ∧ IsTy w1 w.heap.size ta) ∧ MapIs Try.prog 47 w1 (w.heap.size + 1) 0 (fun _ => none) ∧ (BoxAt w1 (w.heap.size + 1 + 1) c ∧ IsTy w1 (w.heap.size + 1 + 1) tc) ∧ BoxAt w1 (w.heap.size + 1 + 1 + 1) d ∧ IsTy w1 (w.heap.size + 1 + 1 + 1) td := by
  obtain ⟨x, hx⟩ : ∃ x, x = w.alloc (.cells a.toArray ta) := ⟨_, rfl⟩
  obtain ⟨y, hy⟩ : ∃ y, y = x.alloc (.map #[] 0) := ⟨_, rfl⟩
  rw [← hx, ← hy] at h
  obtain ⟨p1, p2, p3, p4⟩ := alloc1 w a ta x hx
  have b1 : Below x.heap.size x y := by rw [hy]; exact (Below.refl _ _).alloc (Nat.le_refl _) _
  have s1 : y.heap.size = x.heap.size + 1 := by rw [hy]; simp
  have m1 : MapIs Try.prog 47 y x.heap.size 0 (fun _ => none) := by rw [hy]; exact MapIs.made _ _ _
  obtain ⟨q1, q2, ⟨q3, q4⟩, q5, q6⟩ := alloc2t y c d tc td w1 h
  have b2 : Below x.heap.size x w1 := b1.trans (q1.mono (by omega))
  rw [s1, p2] at q2 q3 q4 q5 q6
  rw [p2] at m1
  exact ⟨p1.trans (b2.mono (by omega)), q2, ⟨p3.later b2, p4.block (b2.block _ p4.lt)⟩, m1.later q1, ⟨q3, q4⟩, q5, q6⟩
theorem FlI.apart {K : FlK} (hK : FlD K) {w : World} {v : Value} {l : List PA} (h : FlI K w v l (stL l)) {g : Nat} (hg : v.ownBlock = some g) : Apart w g l := by
  have hty := h.own.ty hg
  refine ⟨fun e he => (h.aux e he).ps, fun e he ad ha hb => ?_, fun e he ad ha hb => ?_, fun e he => ?_⟩
  · have h1 : (Value.slice e.2.1 e.1.starts.length e.2.2.1).ownBlock = some g := by rw [ha, ← hb]; rfl
    exact ((h.aux e he).s.ty h1).ne hty (by decide) rfl
  · have h1 : (Value.slice e.2.2.2.1 e.1.failed.length e.2.2.2.2).ownBlock = some g := by rw [ha, ← hb]; rfl
    exact ((h.aux e he).f.ty h1).ne hty (by decide) rfl
  · have hd := (h.dom e.1.st (List.mem_map.2 ⟨e, he, rfl⟩)).1
    have h6 := hK.vg.1
    have h1 : e.1.starts.length = K.g.starts.length := hd.ls
    have h2 : e.1.failed.length = K.g.starts.length := hd.lf
    omega
theorem followL_bound {g : Gm} (hv : VG g) : (followL g g.deps.length (beginS g) []).length ≤ 20000000000 := by
  have h1 := followL_len hv g.deps.length (beginS g) [] (Dom.begin hv) (by show (0 : Int) + _ ≤ _; omega)
  have h2 := NF_le hv.2.1
  simp at h1
  omega
set_option maxRecDepth 100000 in
set_option maxHeartbeats 8000000 in
theorem plan_any (g : Gm) (sa da : Option Addr) (sc dc : Nat) (w : World) (hG : GmAt w g sa da) (hF : GmFew g) : Calls Try.prog 7 #[gmV g sa sc da dc] w (RetPl g w) := by
  have HS := Lib.hid (fun (wy : World) (hb : Below w.heap.size w wy) => set_any g sa da sc dc wy (hG.later hb) hF)
  have HG := Lib.hid hG
  have HF := Lib.hid hF
  clear hG hF
  have hmf : ∀ (fn : Fn) (first cap : Array Value) (w : World), (Instr.makeFunc fn first cap).run Try.prog w = .ok (.func fn first cap) w := fun _ _ _ _ => rfl
  have hmm := @run_makeMap Try.prog
  go_enter Try.func7, Try.ntmps7
  go_wp2_with fail
  refine calls_named ?_
  intro w0 hw0
  obtain ⟨hb0, hs0, hx0, ht0⟩ := alloc1 w [.slice sa g.starts.length sc, .slice da g.deps.length dc, .int .i64 g.budget] 25 w0 hw0
  have HB0 := Lib.hid hb0
  have HX0 := Lib.hid hx0
  have HT0 := Lib.hid ht0
  have HS0 := Lib.hid hs0
  clear hw0
  refine Calls.mono (HS.out w0 hb0) ?_
  clear hb0 hs0 hx0 ht0
  rintro e w1 ⟨hb, ⟨h1, rfl⟩ | ⟨h1, h2, rfl⟩ | ⟨h1, h2, M, hM, rfl, hmp⟩⟩
  · have HB := Lib.hid (HB0.out.trans (hb.mono HB0.out.size))
    have HV := Lib.hid h1
    clear hb h1
    go_wp2_with fail
    refine bodyPost_ret (v := .tuple #[.slice none 0 0, .int .i64 1]) (by simp [results, Try.f7, go_sem]) rfl ?_
    exact ⟨HB.out.trans (Below.mono (by repeat (first | exact Below.refl _ _ | assumption | refine Below.drew ?_ | refine below_drewN ?_ _ | refine Below.alloc ?_ (by first | omega | (simp; done) | (simp; omega)) _ | refine Below.setCell ?_ (by first | omega | (simp; done) | (simp; omega)) _ | refine Below.trans ?_ (Below.mono (by assumption) (by first | omega | (simp; done) | (simp; omega))))) HB.out.size), .inl ⟨HV.out, rfl⟩⟩
  · have HB := Lib.hid (HB0.out.trans (hb.mono HB0.out.size))
    have HV := Lib.hid h1
    have HSM := Lib.hid h2
    clear hb h1 h2
    go_wp2_with fail
    refine bodyPost_ret (v := .tuple #[.slice none 0 0, .int .i64 7]) (by simp [results, Try.f7, go_sem]) rfl ?_
    exact ⟨HB.out.trans (Below.mono (by repeat (first | exact Below.refl _ _ | assumption | refine Below.drew ?_ | refine below_drewN ?_ _ | refine Below.alloc ?_ (by first | omega | (simp; done) | (simp; omega)) _ | refine Below.setCell ?_ (by first | omega | (simp; done) | (simp; omega)) _ | refine Below.trans ?_ (Below.mono (by assumption) (by first | omega | (simp; done) | (simp; omega))))) HB.out.size), .inr (.inl ⟨HV.out, HSM.out, rfl⟩)⟩
  · have HB := Lib.hid (HB0.out.trans (hb.mono HB0.out.size))
    have HV := Lib.hid h1
    have HSM := Lib.hid h2
    have HMM := Lib.hid hmp
    have HM := Lib.hid hM
    have HB1 := Lib.hid hb
    clear hb h1 h2 hmp hM
    unfold bdV stV stC st14
    go_upto_region 4 with fail
    refine wp_named ?_
    intro w2 hw2
    obtain ⟨hb2, hs2, ⟨hb, htb⟩, hst, _⟩ := alloc2t w1 (bdC g sa sc da dc M) (stC (beginS g)) _ _ w2 hw2
    have HB2 := Lib.hid hb2
    have HS2 := Lib.hid hs2
    have HBB := Lib.hid hb
    have HTB := Lib.hid htb
    have HST := Lib.hid hst
    clear hw2 hb2 hs2 hb htb hst
    go_upto_region 8 with fail
    refine wp_named ?_
    intro w3 hw3
    obtain ⟨hb3, hs3, ⟨ho, hto⟩, hmp3, ⟨hsb, hts⟩, hf, htf⟩ := allocF w2 [.slice none 0 0] [.map (some (w2.heap.size + 1))] _ _ _ _ w3 hw3
    obtain ⟨K, hKd⟩ : ∃ K : FlK, K = ⟨g, sa, sc, da, dc, M, w2.heap.size + 1, w.heap.size, w1.heap.size, w2.heap.size + 1 + 1, w2.heap.size, w2.heap.size + 1 + 1 + 1, w⟩ := ⟨_, rfl⟩
    have hMlt := HMM.out.lt
    have hb03 : Below w0.heap.size w0 w3 := (HB1.out.trans (HB2.out.mono HB1.out.size)).trans (hb3.mono (Nat.le_trans HB1.out.size HB2.out.size))
    have hb13 : Below w1.heap.size w1 w3 := HB2.out.trans (hb3.mono HB2.out.size)
    have hbw3 : Below w.heap.size w w3 := HB.out.trans (hb13.mono HB.out.size)
    have hKK : FlD K := by
      rw [hKd]
      have h1 := HM.out
      have h2 := HB0.out.size
      have h3 := HB.out.size
      have h4 := HB2.out.size
      exact ⟨HV.out, HG.out, ⟨by show w.heap.size ≤ M; omega, by show w.heap.size ≤ w2.heap.size + 1; omega, by show w.heap.size ≤ w2.heap.size; omega⟩, by show M ≠ w2.heap.size + 1; omega⟩
    have hI3 : FlI K w3 (.slice none 0 0) [] (stL []) := by
      rw [hKd]
      exact ⟨hbw3, (memo_new (g := g) HMM.out).later hb13, ⟨0, hmp3.congr fun x => (seenF_nil x).symm⟩, HX0.out.later hb03, HBB.out.later hb3, hsb, ho, hf, HT0.out.block (hb03.block _ HT0.out.lt), HTB.out.block (hb3.block _ HTB.out.lt), hts, hto, htf, El.Own.nil _ _ _,
        fun e he => (by cases he), fun e he => (by cases he), fun e he => (by cases he)⟩
    have hfol := fol_all hKK g.deps.length (beginS g) (by rw [hKd]; exact Dom.begin HV.out) (by rw [hKd]; show (0 : Int) + (g.deps.length : Int) = (g.deps.length : Int); omega) w3 _ _ hI3 (by have h1 := NF_le HV.out.2.1; show 0 + NF g.deps.length ≤ _; omega)
    have hKD := Lib.hid hKd
    have HKK := Lib.hid hKK
    have HBW3 := Lib.hid hbw3
    have HNUM := Lib.hid (show w.heap.size ≤ w2.heap.size from Nat.le_trans HB.out.size HB2.out.size)
    have f0 := (hf 0 _ rfl).1
    have hst3 := HST.out.later hb3
    rw [hKd] at hfol
    dsimp only at hfol
    have HFOL := Lib.hid hfol
    have HST3 := Lib.hid hst3
    clear hw3 hb3 hs3 ho hto hmp3 hsb hts hf htf hMlt hb03 hb13 hbw3 hKK hI3 hfol hst3 hKd
    go_upto_region 9 with first | (refine wpList_load_mid rfl 47 _ rfl (w1.heap.size + 1) 0 rfl (stC (beginS g)) _ (box_range HST3.out) Try.underlying47 rfl (by kernel_rfl) ?_) | (go_at_call 16; refine Calls.mono HFOL.out ?_; rintro e w4 ⟨rfl, hp4⟩)
    rw [← hKD.out] at hp4
    obtain ⟨v4, l4, e4, hI4, _, hn4⟩ := hp4.p
    have hlo : ∀ k, chS K (.slice none 0 0) k → w.heap.size ≤ k := by
      have h1 := HKK.out.lo
      have h2 : K.w0 = w := by rw [hKD.out]
      rw [h2] at h1
      rintro k (h | h | h | h)
      · omega
      · omega
      · omega
      · cases h
    have hbw4 : Below w.heap.size w w4 := HBW3.out.trans (hp4.c.below HBW3.out.size hlo)
    have hg : K.g = g := by rw [hKD.out]
    have hw0 : K.w0 = w := by rw [hKD.out]
    have hob : K.Ob = w2.heap.size := by rw [hKD.out]
    have hle : l4.length ≤ 20000000000 := by
      have h1 := followL_bound HV.out
      have h2 : (stL l4).length = l4.length := List.length_map _
      rw [← h2, e4]
      exact h1
    have hso := sort_any l4 v4 w.heap.size w4 (by have := hI4.own; rwa [hw0] at this) (fun gb hgb => hI4.apart HKK.out hgb) (by omega)
    have o0 := (hI4.o 0 _ rfl).1
    rw [hob] at o0
    have HSO := Lib.hid hso
    have HI4 := Lib.hid hI4
    have HBW4 := Lib.hid hbw4
    have HE4 := Lib.hid e4
    have HGG := Lib.hid hg
    have HW0 := Lib.hid hw0
    have HOB := Lib.hid hob
    have HLE := Lib.hid hle
    clear hp4 e4 hI4 hn4 hlo hbw4 hg hw0 hob hle hso f0
    go_upto_region 10 with (go_at_call 22; refine Calls.mono HSO.out ?_; rintro e w5 ⟨rfl, a, c, l5, hv, hl5, hpm, hsr, hat, hps, hch⟩)
    have hO5 : BoxAt w5 K.Ob [v4] := HI4.out.o.chg hch (fun e => (HI4.out.own.ty e).ne HI4.out.tO (by decide) rfl) HI4.out.o.lt
    have o5 := (hO5 0 _ rfl).1
    rw [HOB.out, hv] at o5
    have hbw5 : Below w.heap.size w w5 := HBW4.out.trans (hch.below HBW4.out.size fun k hk => by have := (HI4.out.own.lt k hk).1; rwa [HW0.out] at this)
    have hcap : l4.length ≤ c ∧ c ≤ maxLen := by
      obtain ⟨a', c', e', h1, h2, _⟩ := HI4.out.own.at
      rw [hv] at e'
      cases e'
      exact ⟨h1, h2⟩
    have hpo : PlanOf g (l5.map (·.1)) := by
      have hps4 : l4.map (·.1) = (stL l4).map (posS g) := by
        rw [List.map_map]
        refine List.map_congr_left fun e he => ?_
        have := HI4.out.pos e he
        rw [HGG.out] at this
        exact this
      refine ⟨?_, ?_⟩
      · have := hpm.map (·.1)
        rw [hps4, HE4.out] at this
        exact this
      · rw [List.pairwise_map]
        exact hsr.imp fun {x y} h => by omega
    have HFIN := Lib.hid (show RetPl g w (.returned (.tuple #[.slice a l5.length c, .int .i64 0])) w5 from ⟨hbw5, .inr (.inr ⟨HV.out, HSM.out, a, c, l5, rfl, hpo, hat, hps, by rw [hl5]; exact hcap.1, hcap.2, by rw [hl5]; have := HLE.out; omega⟩)⟩)
    have HL5 := Lib.hid hl5
    clear hl5 hO5 hbw5 hcap hpo hpm hsr hat hps hch hv o0
    go_wp2_with fail
    refine bodyPost_ret (v := .tuple #[.slice a l5.length c, .int .i64 0]) (by simp [results, Try.f7, go_sem]; exact HL5.out.symm) rfl ?_
    exact HFIN.out
end Go.Proofs.Ytgccankekflchaa

