

/- The laws' head: the chapter's examples. -/
import Derived.Test.YtgoomcnaemfjcaaHldG
namespace Go.Proofs.Ytgoomcnaemfjcaa
open Go.RowKit

abbrev sH : ByteArray := ⟨#[104]⟩
abbrev sX : ByteArray := ⟨#[120]⟩
abbrev sY : ByteArray := ⟨#[121]⟩
abbrev sZ : ByteArray := ⟨#[122]⟩
abbrev sV : ByteArray := ⟨#[118, 49]⟩
theorem exA (a : Option Addr) (c : Nat) : allH [sH, sX] [madeR sV [1, 2] a c, backR 1 sH] = [⟨sH, sV, [1, 2], [1]⟩] := by rfl
theorem exB (a : Option Addr) (c : Nat) : allH [sH, sX, sY, sZ] [madeR sV [1, 2] a c, backR 1 sH, backR 2 sH, backR 3 sH] = [⟨sH, sV, [1, 2], [1, 2]⟩] := by rfl
theorem exC (a : Option Addr) (c : Nat) : allH [sX, sH] [backR 1 sH, madeR sV [1] a c] = [⟨sH, sV, [1], []⟩] := by rfl
theorem exD (a : Option Addr) (c : Nat) : allH [] [madeR sV [1] a c] = [] := by rfl
theorem one_of {L : List HA} {h : Hd} (e : L.map (·.1) = [h]) : ∃ x, L = [x] ∧ x.1 = h := by
  match L, e with
  | [x], e => exact ⟨x, rfl, by simpa using e⟩
theorem few_of {ids : List ByteArray} {l : List Rec} (h1 : l.length ≤ 4) (h2 : ∀ s ∈ ids, s.size ≤ 4) (h3 : ∀ r ∈ l, r.target.size ≤ 4) : Few ids l := ⟨by omega, fun s hs => by have := h2 s hs; omega, fun r hr => by have := h3 r hr; omega⟩
set_option maxRecDepth 100000 in
set_option maxHeartbeats 4000000 in
theorem head_any (w : World) : Calls Try.prog 9 #[] w (RetB (.bool true) w) := by
  go_enter Try.func9, Try.ntmps9
  go_wp2_with fail
  obtain ⟨waA, hwa⟩ : ∃ wa, wa = ((w.alloc (Obj.cells #[.string sH, .string sX] 9)).alloc (Obj.cells #[.int .i64 1, .int .i64 2] 3)) := ⟨_, rfl⟩
  rw [← hwa]
  have hba : Below w.heap.size w waA := by rw [hwa]; exact (by repeat (first | exact Below.refl _ _ | assumption | refine Below.drew ?_ | refine below_drewN ?_ _ | refine Below.alloc ?_ (by first | omega | (simp; done) | (simp; omega)) _ | refine Below.setCell ?_ (by first | omega | (simp; done) | (simp; omega)) _ | refine Below.trans ?_ (Below.mono (by assumption) (by first | omega | (simp; done) | (simp; omega)))))
  have I1 : ES.At waA (some ⟨w.heap.size, 0, none⟩) [sH, sX] := by rw [hwa]; exact (El.at_lit ES w [sH, sX] #[.string sH, .string sX] 9 rfl).later ((Below.refl _ _).alloc (Nat.le_refl _) _)
  have J1 : Ints waA (some ⟨w.heap.size + 1, 0, none⟩) [1, 2] := by
    rw [hwa]
    have := El.at_lit EI (w.alloc (Obj.cells #[.string sH, .string sX] 9)) [1, 2] #[.int .i64 1, .int .i64 2] 3 rfl
    rw [World.size_alloc] at this
    exact this.ints
  obtain ⟨pA, hp⟩ : ∃ p, p = w.heap.size := ⟨_, rfl⟩
  rw [← hp] at I1 J1 ⊢
  have HBA := Lib.hid hba
  have HI1 := Lib.hid I1
  have HJ1 := Lib.hid J1
  clear hwa hba I1 J1 hp
  refine Calls.mono (made_any sV (some ⟨pA + 1, 0, none⟩) 2 2 waA) ?_
  rintro e wA0 ⟨rfl, hb1⟩
  have HB0 := Lib.hid hb1
  clear hb1
  go_wp2_with fail
  refine Calls.mono (back_any 1 sH wA0) ?_
  rintro e wA1 ⟨rfl, hb2⟩
  have HB1 := Lib.hid (HB0.out.trans (hb2.mono HB0.out.size))
  clear hb2
  go_wp2_with fail
  have hb3 : Below wA1.heap.size wA1 (wA1.alloc (Obj.cells (madeC sV (some ⟨pA + 1, 0, none⟩) 2 2 ++ backC 1 sH).toArray 54)) := (by repeat (first | exact Below.refl _ _ | assumption | refine Below.drew ?_ | refine below_drewN ?_ _ | refine Below.alloc ?_ (by first | omega | (simp; done) | (simp; omega)) _ | refine Below.setCell ?_ (by first | omega | (simp; done) | (simp; omega)) _ | refine Below.trans ?_ (Below.mono (by assumption) (by first | omega | (simp; done) | (simp; omega)))))
  have A1 := all_any [sH, sX] [madeR sV [1, 2] (some ⟨pA + 1, 0, none⟩) 2, backR 1 sH] (some ⟨pA, 0, none⟩) (some ⟨wA1.heap.size, 0, none⟩) 2 2 _ ((HI1.out.later HB1.out).later hb3) (El.at_lit ER wA1 _ _ _ rfl) (by
    intro r hr
    simp only [List.mem_cons, List.not_mem_nil, or_false] at hr
    rcases hr with rfl | rfl
    · exact ⟨madeF _ _ _ _ (by decide), (HJ1.out.later HB1.out).later hb3⟩
    · exact ⟨backF _ _, Ints.nil _ _⟩
    ) (few_of (by simp) (by decide) (by intro r hr; simp only [List.mem_cons, List.not_mem_nil, or_false] at hr; rcases hr with rfl | rfl <;> first | (show (⟨#[]⟩ : ByteArray).size ≤ 4; decide) | (show sH.size ≤ 4; decide)))
  rw [exA] at A1
  refine Calls.mono A1 ?_
  rintro e wA ⟨aA, cA, LA, rfl, hA1, hA2, hA3, hA4, hA5, hA6, hb4⟩
  obtain ⟨xA, rfl, hxA⟩ := one_of hA1
  have HXA := Lib.hid hxA
  have HATA := Lib.hid hA2
  have HALA := Lib.hid hA3
  have HBWA := Lib.hid ((((Below.refl w.heap.size w).trans (HBA.out.mono (Below.refl w.heap.size w).size)).trans (HB1.out.mono ((Below.refl w.heap.size w).trans (HBA.out.mono (Below.refl w.heap.size w).size)).size)).trans ((hb3.trans (hb4.mono hb3.size)).mono (((Below.refl w.heap.size w).trans (HBA.out.mono (Below.refl w.heap.size w).size)).trans (HB1.out.mono ((Below.refl w.heap.size w).trans (HBA.out.mono (Below.refl w.heap.size w).size)).size)).size))
  have HBLA := Lib.hid ((HBA.out.trans (HB1.out.mono HBA.out.size)).trans ((hb3.trans (hb4.mono hb3.size)).mono (HBA.out.trans (HB1.out.mono HBA.out.size)).size))
  clear hA1 hA2 hA3 hA4 hA5 hA6 hb4 hb3 A1 HBA HI1 HJ1 hxA HB0 HB1
  simp only [List.length_cons, List.length_nil, Nat.zero_add]
  go_wp2_with fail
  obtain ⟨waB, hwa⟩ : ∃ wa, wa = ((wA.alloc (Obj.cells #[.string sH, .string sX, .string sY, .string sZ] 9)).alloc (Obj.cells #[.int .i64 1, .int .i64 2] 3)) := ⟨_, rfl⟩
  rw [← hwa]
  have hba : Below wA.heap.size wA waB := by rw [hwa]; exact (by repeat (first | exact Below.refl _ _ | assumption | refine Below.drew ?_ | refine below_drewN ?_ _ | refine Below.alloc ?_ (by first | omega | (simp; done) | (simp; omega)) _ | refine Below.setCell ?_ (by first | omega | (simp; done) | (simp; omega)) _ | refine Below.trans ?_ (Below.mono (by assumption) (by first | omega | (simp; done) | (simp; omega)))))
  have I1 : ES.At waB (some ⟨wA.heap.size, 0, none⟩) [sH, sX, sY, sZ] := by rw [hwa]; exact (El.at_lit ES wA [sH, sX, sY, sZ] #[.string sH, .string sX, .string sY, .string sZ] 9 rfl).later ((Below.refl _ _).alloc (Nat.le_refl _) _)
  have J1 : Ints waB (some ⟨wA.heap.size + 1, 0, none⟩) [1, 2] := by
    rw [hwa]
    have := El.at_lit EI (wA.alloc (Obj.cells #[.string sH, .string sX, .string sY, .string sZ] 9)) [1, 2] #[.int .i64 1, .int .i64 2] 3 rfl
    rw [World.size_alloc] at this
    exact this.ints
  obtain ⟨pB, hp⟩ : ∃ p, p = wA.heap.size := ⟨_, rfl⟩
  rw [← hp] at I1 J1 ⊢
  have HBA := Lib.hid hba
  have HI1 := Lib.hid I1
  have HJ1 := Lib.hid J1
  clear hwa hba I1 J1 hp
  refine Calls.mono (made_any sV (some ⟨pB + 1, 0, none⟩) 2 2 waB) ?_
  rintro e wB0 ⟨rfl, hb1⟩
  have HB0 := Lib.hid hb1
  clear hb1
  go_wp2_with fail
  refine Calls.mono (back_any 1 sH wB0) ?_
  rintro e wB1 ⟨rfl, hb2⟩
  have HB1 := Lib.hid (HB0.out.trans (hb2.mono HB0.out.size))
  clear hb2
  go_wp2_with fail
  refine Calls.mono (back_any 2 sH wB1) ?_
  rintro e wB2 ⟨rfl, hb2⟩
  have HB2 := Lib.hid (HB1.out.trans (hb2.mono HB1.out.size))
  clear hb2
  go_wp2_with fail
  refine Calls.mono (back_any 3 sH wB2) ?_
  rintro e wB3 ⟨rfl, hb2⟩
  have HB3 := Lib.hid (HB2.out.trans (hb2.mono HB2.out.size))
  clear hb2
  go_wp2_with fail
  have hb3 : Below wB3.heap.size wB3 (wB3.alloc (Obj.cells (madeC sV (some ⟨pB + 1, 0, none⟩) 2 2 ++ backC 1 sH ++ backC 2 sH ++ backC 3 sH).toArray 54)) := (by repeat (first | exact Below.refl _ _ | assumption | refine Below.drew ?_ | refine below_drewN ?_ _ | refine Below.alloc ?_ (by first | omega | (simp; done) | (simp; omega)) _ | refine Below.setCell ?_ (by first | omega | (simp; done) | (simp; omega)) _ | refine Below.trans ?_ (Below.mono (by assumption) (by first | omega | (simp; done) | (simp; omega)))))
  have A1 := all_any [sH, sX, sY, sZ] [madeR sV [1, 2] (some ⟨pB + 1, 0, none⟩) 2, backR 1 sH, backR 2 sH, backR 3 sH] (some ⟨pB, 0, none⟩) (some ⟨wB3.heap.size, 0, none⟩) 4 4 _ ((HI1.out.later HB3.out).later hb3) (El.at_lit ER wB3 _ _ _ rfl) (by
    intro r hr
    simp only [List.mem_cons, List.not_mem_nil, or_false] at hr
    rcases hr with rfl | rfl | rfl | rfl
    · exact ⟨madeF _ _ _ _ (by decide), (HJ1.out.later HB3.out).later hb3⟩
    · exact ⟨backF _ _, Ints.nil _ _⟩
    · exact ⟨backF _ _, Ints.nil _ _⟩
    · exact ⟨backF _ _, Ints.nil _ _⟩
    ) (few_of (by simp) (by decide) (by intro r hr; simp only [List.mem_cons, List.not_mem_nil, or_false] at hr; rcases hr with rfl | rfl | rfl | rfl <;> first | (show (⟨#[]⟩ : ByteArray).size ≤ 4; decide) | (show sH.size ≤ 4; decide)))
  rw [exB] at A1
  refine Calls.mono A1 ?_
  rintro e wB ⟨aB, cB, LA, rfl, hA1, hA2, hA3, hA4, hA5, hA6, hb4⟩
  obtain ⟨xB, rfl, hxB⟩ := one_of hA1
  have HXB := Lib.hid hxB
  have HATB := Lib.hid hA2
  have HALB := Lib.hid hA3
  have HBWB := Lib.hid (((HBWA.out.trans (HBA.out.mono HBWA.out.size)).trans (HB3.out.mono (HBWA.out.trans (HBA.out.mono HBWA.out.size)).size)).trans ((hb3.trans (hb4.mono hb3.size)).mono ((HBWA.out.trans (HBA.out.mono HBWA.out.size)).trans (HB3.out.mono (HBWA.out.trans (HBA.out.mono HBWA.out.size)).size)).size))
  have HBLB := Lib.hid ((HBA.out.trans (HB3.out.mono HBA.out.size)).trans ((hb3.trans (hb4.mono hb3.size)).mono (HBA.out.trans (HB3.out.mono HBA.out.size)).size))
  clear hA1 hA2 hA3 hA4 hA5 hA6 hb4 hb3 A1 HBA HI1 HJ1 hxB HB0 HB1 HB2 HB3
  simp only [List.length_cons, List.length_nil, Nat.zero_add]
  go_wp2_with fail
  obtain ⟨waC, hwa⟩ : ∃ wa, wa = wB.alloc (Obj.cells #[.string sX, .string sH] 9) := ⟨_, rfl⟩
  rw [← hwa]
  have hba : Below wB.heap.size wB waC := by rw [hwa]; exact (by repeat (first | exact Below.refl _ _ | assumption | refine Below.drew ?_ | refine below_drewN ?_ _ | refine Below.alloc ?_ (by first | omega | (simp; done) | (simp; omega)) _ | refine Below.setCell ?_ (by first | omega | (simp; done) | (simp; omega)) _ | refine Below.trans ?_ (Below.mono (by assumption) (by first | omega | (simp; done) | (simp; omega)))))
  have I1 : ES.At waC (some ⟨wB.heap.size, 0, none⟩) [sX, sH] := by rw [hwa]; exact El.at_lit ES wB [sX, sH] #[.string sX, .string sH] 9 rfl
  obtain ⟨pC, hp⟩ : ∃ p, p = wB.heap.size := ⟨_, rfl⟩
  rw [← hp] at I1 ⊢
  have HBA := Lib.hid hba
  have HI1 := Lib.hid I1
  clear hwa hba I1 hp
  refine Calls.mono (back_any 1 sH waC) ?_
  rintro e wC0 ⟨rfl, hb1⟩
  have HB0 := Lib.hid hb1
  clear hb1
  go_wp2_with fail
  obtain ⟨wC1, hwa⟩ : ∃ wa, wa = wC0.alloc (Obj.cells #[.int .i64 1] 3) := ⟨_, rfl⟩
  rw [← hwa]
  have hb1 : Below wC0.heap.size wC0 wC1 := by rw [hwa]; exact (by repeat (first | exact Below.refl _ _ | assumption | refine Below.drew ?_ | refine below_drewN ?_ _ | refine Below.alloc ?_ (by first | omega | (simp; done) | (simp; omega)) _ | refine Below.setCell ?_ (by first | omega | (simp; done) | (simp; omega)) _ | refine Below.trans ?_ (Below.mono (by assumption) (by first | omega | (simp; done) | (simp; omega)))))
  have J1 : Ints wC1 (some ⟨wC0.heap.size, 0, none⟩) [1] := by rw [hwa]; exact (El.at_lit EI wC0 [1] #[.int .i64 1] 3 rfl).ints
  obtain ⟨qC, hp⟩ : ∃ p, p = wC0.heap.size := ⟨_, rfl⟩
  rw [← hp] at J1 ⊢
  have HJ1 := Lib.hid J1
  have HB1 := Lib.hid (HB0.out.trans (hb1.mono HB0.out.size))
  clear hwa hb1 J1 hp
  refine Calls.mono (made_any sV (some ⟨qC, 0, none⟩) 1 1 wC1) ?_
  rintro e wC2 ⟨rfl, hb2⟩
  have HB2 := Lib.hid (HB1.out.trans (hb2.mono HB1.out.size))
  have HJ2 := Lib.hid (HJ1.out.later hb2)
  clear hb2
  go_wp2_with fail
  have hb3 : Below wC2.heap.size wC2 (wC2.alloc (Obj.cells (backC 1 sH ++ madeC sV (some ⟨qC, 0, none⟩) 1 1).toArray 54)) := (by repeat (first | exact Below.refl _ _ | assumption | refine Below.drew ?_ | refine below_drewN ?_ _ | refine Below.alloc ?_ (by first | omega | (simp; done) | (simp; omega)) _ | refine Below.setCell ?_ (by first | omega | (simp; done) | (simp; omega)) _ | refine Below.trans ?_ (Below.mono (by assumption) (by first | omega | (simp; done) | (simp; omega)))))
  have A1 := all_any [sX, sH] [backR 1 sH, madeR sV [1] (some ⟨qC, 0, none⟩) 1] (some ⟨pC, 0, none⟩) (some ⟨wC2.heap.size, 0, none⟩) 2 2 _ ((HI1.out.later HB2.out).later hb3) (El.at_lit ER wC2 _ _ _ rfl) (by
    intro r hr
    simp only [List.mem_cons, List.not_mem_nil, or_false] at hr
    rcases hr with rfl | rfl
    · exact ⟨backF _ _, Ints.nil _ _⟩
    · exact ⟨madeF _ _ _ _ (by decide), HJ2.out.later hb3⟩) (few_of (by simp) (by decide) (by intro r hr; simp only [List.mem_cons, List.not_mem_nil, or_false] at hr; rcases hr with rfl | rfl <;> first | (show (⟨#[]⟩ : ByteArray).size ≤ 4; decide) | (show sH.size ≤ 4; decide)))
  rw [exC] at A1
  refine Calls.mono A1 ?_
  rintro e wC ⟨aC, cC, LA, rfl, hA1, hA2, hA3, hA4, hA5, hA6, hb4⟩
  obtain ⟨xC, rfl, hxC⟩ := one_of hA1
  have HXC := Lib.hid hxC
  have HBLC := Lib.hid ((HBA.out.trans (HB2.out.mono HBA.out.size)).trans ((hb3.trans (hb4.mono hb3.size)).mono (HBA.out.trans (HB2.out.mono HBA.out.size)).size))
  have HBWC := Lib.hid (HBWB.out.trans (HBLC.out.mono HBWB.out.size))
  have HAA := Lib.hid (HATA.out.later (HBLB.out.trans (HBLC.out.mono HBLB.out.size)))
  have HAAL := Lib.hid (HALA.out.later (HBLB.out.trans (HBLC.out.mono HBLB.out.size)))
  have HBB := Lib.hid (HATB.out.later HBLC.out)
  have HBBL := Lib.hid (HALB.out.later HBLC.out)
  have HCC := Lib.hid hA2
  have HCCL := Lib.hid hA3
  clear hA1 hA2 hA3 hA4 hA5 hA6 hb4 hb3 A1 HBA HI1 HJ1 HJ2 hxC HB0 HB1 HB2 HATA HALA HATB HALB HBLA HBLB HBLC HBWA HBWB
  simp only [List.length_cons, List.length_nil, Nat.zero_add]
  go_wp2_with fail
  obtain ⟨wS1, hwa⟩ : ∃ wa, wa = (((wC.alloc (Obj.cells #[.int .i64 1, .int .i64 2] 3)).alloc (Obj.cells #[.int .i64 1] 3)).alloc (Obj.cells #[.string sH, .string sV, .slice (some ⟨wC.heap.size, 0, none⟩) 2 2, .slice (some ⟨wC.heap.size + 1, 0, none⟩) 1 1] 31)) := ⟨_, rfl⟩
  rw [← hwa]
  have hb : Below wC.heap.size wC wS1 := by rw [hwa]; exact (by repeat (first | exact Below.refl _ _ | assumption | refine Below.drew ?_ | refine below_drewN ?_ _ | refine Below.alloc ?_ (by first | omega | (simp; done) | (simp; omega)) _ | refine Below.setCell ?_ (by first | omega | (simp; done) | (simp; omega)) _ | refine Below.trans ?_ (Below.mono (by assumption) (by first | omega | (simp; done) | (simp; omega)))))
  have J1 : Ints wS1 (some ⟨wC.heap.size, 0, none⟩) [1, 2] := by
    rw [hwa]
    exact ((El.at_lit EI wC [1, 2] #[.int .i64 1, .int .i64 2] 3 rfl).ints.later ((Below.refl _ _).alloc (Nat.le_refl _) _)).later ((Below.refl _ _).alloc (Nat.le_refl _) _)
  have J2 : Ints wS1 (some ⟨wC.heap.size + 1, 0, none⟩) [1] := by
    rw [hwa]
    have := (El.at_lit EI (wC.alloc (Obj.cells #[.int .i64 1, .int .i64 2] 3)) [1] #[.int .i64 1] 3 rfl).ints.later ((Below.refl _ _).alloc (Nat.le_refl _) (Obj.cells #[.string sH, .string sV, .slice (some ⟨wC.heap.size, 0, none⟩) 2 2, .slice (some ⟨wC.heap.size + 1, 0, none⟩) 1 1] 31))
    rw [World.size_alloc] at this
    exact this
  have K1 : EH.At wS1 (some ⟨wC.heap.size + 1 + 1, 0, none⟩) [(⟨sH, sV, [1, 2], [1]⟩, (some ⟨wC.heap.size, 0, none⟩, 2, some ⟨wC.heap.size + 1, 0, none⟩, 1))] := by
    rw [hwa]
    have := El.at_lit EH ((wC.alloc (Obj.cells #[.int .i64 1, .int .i64 2] 3)).alloc (Obj.cells #[.int .i64 1] 3)) [((⟨sH, sV, [1, 2], [1]⟩, (some ⟨wC.heap.size, 0, none⟩, 2, some ⟨wC.heap.size + 1, 0, none⟩, 1)) : HA)] #[.string sH, .string sV, .slice (some ⟨wC.heap.size, 0, none⟩) 2 2, .slice (some ⟨wC.heap.size + 1, 0, none⟩) 1 1] 31 rfl
    rw [World.size_alloc, World.size_alloc] at this
    exact this
  have S1 := same_any [xA] [(⟨sH, sV, [1, 2], [1]⟩, (some ⟨wC.heap.size, 0, none⟩, 2, some ⟨wC.heap.size + 1, 0, none⟩, 1))] aA (some ⟨wC.heap.size + 1 + 1, 0, none⟩) cA 1 wS1 ((HAA.out).later hb) K1 ((HAAL.out).later hb) (fun y hy => by
    obtain rfl := List.mem_singleton.1 hy
    exact ⟨J1, J2, by show 2 < _; omega, by show 1 < _; omega⟩) (by simp)
  rw [sameB_yes (by simp [HXA.out])] at S1
  have HBS1 := Lib.hid hb
  clear hwa hb J1 J2 K1
  refine Calls.mono S1 ?_
  rintro e wT1 ⟨rfl, hb⟩
  have HB1 := Lib.hid (HBS1.out.trans (hb.mono HBS1.out.size))
  clear S1 hb
  obtain ⟨abA, aoA, rfl, _⟩ := (HAA.out.later HB1.out).head (by simp)
  obtain ⟨q0, q1, q2, q3⟩ := hd_cells (HAA.out.later HB1.out) (k := 0) (by simp)
  simp only [List.getElem_cons_zero, Nat.zero_mul, Nat.add_zero] at q0 q1 q2 q3
  have O1 := out_any xA.1 xA.2.1 xA.2.2.2.1 xA.2.2.1 xA.2.2.2.2 wT1 ((HAAL.out.later HB1.out) xA (by simp))
  rw [show outB xA.1 = true from by rw [HXA.out]; exact outB_yes ⟨2, by simp, by simp⟩] at O1
  unfold hdV at O1
  have HO1 := Lib.hid O1
  clear O1
  go_wp2_with fail
  refine Calls.mono HO1.out ?_
  rintro e wO1 ⟨rfl, hb⟩
  have HBO1 := Lib.hid hb
  clear hb HO1 q0 q1 q2 q3
  have HBP := Lib.hid (HB1.out.trans (HBO1.out.mono HB1.out.size))
  go_wp2_with fail
  obtain ⟨wS2, hwa⟩ : ∃ wa, wa = (((wO1.alloc (Obj.cells #[.int .i64 1, .int .i64 2] 3)).alloc (Obj.cells #[.int .i64 1, .int .i64 2] 3)).alloc (Obj.cells #[.string sH, .string sV, .slice (some ⟨wO1.heap.size, 0, none⟩) 2 2, .slice (some ⟨wO1.heap.size + 1, 0, none⟩) 2 2] 31)) := ⟨_, rfl⟩
  rw [← hwa]
  have hb : Below wO1.heap.size wO1 wS2 := by rw [hwa]; exact (by repeat (first | exact Below.refl _ _ | assumption | refine Below.drew ?_ | refine below_drewN ?_ _ | refine Below.alloc ?_ (by first | omega | (simp; done) | (simp; omega)) _ | refine Below.setCell ?_ (by first | omega | (simp; done) | (simp; omega)) _ | refine Below.trans ?_ (Below.mono (by assumption) (by first | omega | (simp; done) | (simp; omega)))))
  have J1 : Ints wS2 (some ⟨wO1.heap.size, 0, none⟩) [1, 2] := by
    rw [hwa]
    exact ((El.at_lit EI wO1 [1, 2] #[.int .i64 1, .int .i64 2] 3 rfl).ints.later ((Below.refl _ _).alloc (Nat.le_refl _) _)).later ((Below.refl _ _).alloc (Nat.le_refl _) _)
  have J2 : Ints wS2 (some ⟨wO1.heap.size + 1, 0, none⟩) [1, 2] := by
    rw [hwa]
    have := (El.at_lit EI (wO1.alloc (Obj.cells #[.int .i64 1, .int .i64 2] 3)) [1, 2] #[.int .i64 1, .int .i64 2] 3 rfl).ints.later ((Below.refl _ _).alloc (Nat.le_refl _) (Obj.cells #[.string sH, .string sV, .slice (some ⟨wO1.heap.size, 0, none⟩) 2 2, .slice (some ⟨wO1.heap.size + 1, 0, none⟩) 2 2] 31))
    rw [World.size_alloc] at this
    exact this
  have K1 : EH.At wS2 (some ⟨wO1.heap.size + 1 + 1, 0, none⟩) [(⟨sH, sV, [1, 2], [1, 2]⟩, (some ⟨wO1.heap.size, 0, none⟩, 2, some ⟨wO1.heap.size + 1, 0, none⟩, 2))] := by
    rw [hwa]
    have := El.at_lit EH ((wO1.alloc (Obj.cells #[.int .i64 1, .int .i64 2] 3)).alloc (Obj.cells #[.int .i64 1, .int .i64 2] 3)) [((⟨sH, sV, [1, 2], [1, 2]⟩, (some ⟨wO1.heap.size, 0, none⟩, 2, some ⟨wO1.heap.size + 1, 0, none⟩, 2)) : HA)] #[.string sH, .string sV, .slice (some ⟨wO1.heap.size, 0, none⟩) 2 2, .slice (some ⟨wO1.heap.size + 1, 0, none⟩) 2 2] 31 rfl
    rw [World.size_alloc, World.size_alloc] at this
    exact this
  have S1 := same_any [xB] [(⟨sH, sV, [1, 2], [1, 2]⟩, (some ⟨wO1.heap.size, 0, none⟩, 2, some ⟨wO1.heap.size + 1, 0, none⟩, 2))] aB (some ⟨wO1.heap.size + 1 + 1, 0, none⟩) cB 1 wS2 (((HBB.out.later HBP.out)).later hb) K1 (((HBBL.out.later HBP.out)).later hb) (fun y hy => by
    obtain rfl := List.mem_singleton.1 hy
    exact ⟨J1, J2, by show 2 < _; omega, by show 2 < _; omega⟩) (by simp)
  rw [sameB_yes (by simp [HXB.out])] at S1
  have HBS2 := Lib.hid hb
  clear hwa hb J1 J2 K1
  refine Calls.mono S1 ?_
  rintro e wT2 ⟨rfl, hb⟩
  have HB2 := Lib.hid (HBS2.out.trans (hb.mono HBS2.out.size))
  clear S1 hb
  have HBQ := Lib.hid (HBP.out.trans (HB2.out.mono HBP.out.size))
  obtain ⟨abB, aoB, rfl, _⟩ := (HBB.out.later HBQ.out).head (by simp)
  obtain ⟨q0, q1, q2, q3⟩ := hd_cells (HBB.out.later HBQ.out) (k := 0) (by simp)
  simp only [List.getElem_cons_zero, Nat.zero_mul, Nat.add_zero] at q0 q1 q2 q3
  have O1 := out_any xB.1 xB.2.1 xB.2.2.2.1 xB.2.2.1 xB.2.2.2.2 wT2 ((HBBL.out.later HBQ.out) xB (by simp))
  rw [show outB xB.1 = false from by rw [HXB.out]; exact outB_no (by rintro ⟨m, h1, h2⟩; simp at h1 h2; omega)] at O1
  unfold hdV at O1
  have HO1 := Lib.hid O1
  clear O1
  go_wp2_with fail
  refine Calls.mono HO1.out ?_
  rintro e wO2 ⟨rfl, hb⟩
  have HBO2 := Lib.hid hb
  clear hb HO1 q0 q1 q2 q3
  have HBR := Lib.hid (HBQ.out.trans (HBO2.out.mono HBQ.out.size))
  obtain ⟨abC, aoC, rfl, _⟩ := (HCC.out.later HBR.out).head (by simp)
  obtain ⟨_, _, _, r3⟩ := hd_cells (HCC.out.later HBR.out) (k := 0) (by simp)
  simp only [List.getElem_cons_zero, Nat.zero_mul, Nat.add_zero] at r3
  rw [HXC.out] at r3
  simp only [List.length_nil] at r3
  have N1 := on_any [xA] sV (some ⟨abA, aoA, none⟩) cA wO2 (HAA.out.later HBR.out) (HAAL.out.later HBR.out) (by simp)
  rw [show onL sV [xA] = [xA] from List.filter_eq_self.2 fun x hx => by
    obtain rfl := List.mem_singleton.1 hx
    exact onB_yes ⟨by rw [HXA.out], by rw [HXA.out]; exact ⟨2, by simp, by simp⟩⟩] at N1
  have HN1 := Lib.hid N1
  clear N1
  go_wp2_with fail
  refine Calls.mono HN1.out ?_
  rintro e wN1 ⟨an1, cn1, rfl, _, hb⟩
  have HBS := Lib.hid (HBR.out.trans (hb.mono HBR.out.size))
  clear hb HN1 r3
  simp only [List.length_cons, List.length_nil, Nat.zero_add]
  have N2 := on_any [xB] sV (some ⟨abB, aoB, none⟩) cB wN1 (HBB.out.later HBS.out) (HBBL.out.later HBS.out) (by simp)
  rw [show onL sV [xB] = [] from List.filter_eq_nil_iff.2 fun x hx => by
    obtain rfl := List.mem_singleton.1 hx
    rw [onB_no]
    · simp
    · rintro ⟨_, m, h1, h2⟩
      rw [HXB.out] at h1 h2
      simp at h1 h2
      omega] at N2
  have HN2 := Lib.hid N2
  clear N2
  go_wp2_with fail
  refine Calls.mono HN2.out ?_
  rintro e wN2 ⟨an2, cn2, rfl, _, hb⟩
  have HBT := Lib.hid (HBS.out.trans (hb.mono HBS.out.size))
  clear hb HN2
  simp only [List.length_nil]
  go_wp2_with fail
  obtain ⟨wD1, hwa⟩ : ∃ wa, wa = wN2.alloc (Obj.cells #[.int .i64 1] 3) := ⟨_, rfl⟩
  rw [← hwa]
  have hb1 : Below wN2.heap.size wN2 wD1 := by rw [hwa]; exact (by repeat (first | exact Below.refl _ _ | assumption | refine Below.drew ?_ | refine below_drewN ?_ _ | refine Below.alloc ?_ (by first | omega | (simp; done) | (simp; omega)) _ | refine Below.setCell ?_ (by first | omega | (simp; done) | (simp; omega)) _ | refine Below.trans ?_ (Below.mono (by assumption) (by first | omega | (simp; done) | (simp; omega)))))
  have J1 : Ints wD1 (some ⟨wN2.heap.size, 0, none⟩) [1] := by rw [hwa]; exact (El.at_lit EI wN2 [1] #[.int .i64 1] 3 rfl).ints
  have HJ1 := Lib.hid J1
  have HBU := Lib.hid (HBT.out.trans (hb1.mono HBT.out.size))
  clear hwa hb1 J1
  refine Calls.mono (made_any sV (some ⟨wN2.heap.size, 0, none⟩) 1 1 wD1) ?_
  rintro e wD2 ⟨rfl, hb2⟩
  have HBV := Lib.hid (HBU.out.trans (hb2.mono HBU.out.size))
  have HJ2 := Lib.hid (HJ1.out.later hb2)
  clear hb2
  go_wp2_with fail
  have hb3 : Below wD2.heap.size wD2 (wD2.alloc (Obj.cells (madeC sV (some ⟨wN2.heap.size, 0, none⟩) 1 1).toArray 54)) := (by repeat (first | exact Below.refl _ _ | assumption | refine Below.drew ?_ | refine below_drewN ?_ _ | refine Below.alloc ?_ (by first | omega | (simp; done) | (simp; omega)) _ | refine Below.setCell ?_ (by first | omega | (simp; done) | (simp; omega)) _ | refine Below.trans ?_ (Below.mono (by assumption) (by first | omega | (simp; done) | (simp; omega)))))
  have A1 := all_any [] [madeR sV [1] (some ⟨wN2.heap.size, 0, none⟩) 1] none (some ⟨wD2.heap.size, 0, none⟩) 0 1 _ El.At.nil (El.at_lit ER wD2 _ _ _ rfl) (by
    intro r hr
    simp only [List.mem_cons, List.not_mem_nil, or_false] at hr
    subst hr
    exact ⟨madeF _ _ _ _ (by decide), HJ2.out.later hb3⟩) (few_of (by simp) (by simp) (by intro r hr; simp only [List.mem_cons, List.not_mem_nil, or_false] at hr; subst hr; show (⟨#[]⟩ : ByteArray).size ≤ 4; decide))
  rw [exD] at A1
  refine Calls.mono A1 ?_
  rintro e wD3 ⟨aD, cD, LD, rfl, hA1, _, _, _, _, _, hb4⟩
  obtain rfl : LD = [] := by simpa using hA1
  have HBX := Lib.hid ((HBWC.out.trans (HBV.out.mono HBWC.out.size)).trans ((hb3.trans (hb4.mono hb3.size)).mono (HBWC.out.trans (HBV.out.mono HBWC.out.size)).size))
  clear hA1 hb4 hb3 A1
  simp only [List.length_nil]
  go_wp2_with fail
  go_ret
  exact retB rfl HBX.out
end Go.Proofs.Ytgoomcnaemfjcaa
