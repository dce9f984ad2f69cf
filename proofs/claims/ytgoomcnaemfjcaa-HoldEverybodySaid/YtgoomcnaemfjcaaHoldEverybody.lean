



/- HoldEverybody: for all Ids, records and index of a hold, with a record of each member that gives it back at the end, it is not out, and without the last member's it is, if this member had not given it back: the call of the law returns true, for every input. -/
import Derived.Test.YtgoomcnaemfjcaaHldI
import Derived.Test.YtgoomcnaemfjcaaHldQ
namespace Go.Proofs.Ytgoomcnaemfjcaa
open Go.ChangeShapes Go.WideShapes Go.ChangeAt Go.RowKit Go.Joins

section
variable {H : Type} {enc : TypeId × Value → H} {w : World} {held : Bool}
theorem open_u8 {b0 : Nat} {r : Reach} {v : Value} {d : DataW H} {p : List MemPlace} (hv : Value.okWide Try.prog w r b0 5 v) (h : DataW.Trod enc Try.prog w 0 (fun _ => true) held 5 v d p) :
    ∃ n : Int, v = .int .u8 n ∧ 0 ≤ n ∧ n < 256 := by
  obtain ⟨n, rfl, _, _, hw⟩ := open_int Try.underlying5 hv h
  have h1 := Bool.and_eq_true_iff.1 hw
  have h2 : 0 ≤ n := of_decide_eq_true h1.1
  have h3 : n ≤ 255 := of_decide_eq_true h1.2
  exact ⟨n, rfl, h2, by omega⟩
end
namespace HoldEverybody
abbrev nonS : ByteArray := ⟨#[110, 111, 110, 101]⟩
set_option maxRecDepth 100000 in
set_option maxHeartbeats 4000000 in
theorem no (ids : List ByteArray) (l : List Rec) (ia ra : Option Addr) (ic rc : Nat) (raw : Int) (w : World) (hI : ES.At w ia ids) (hR : ER.At w ra l) (hA : RecAll w l) (hno : ¬ FewR ids l 30 ∨ (FewR ids l 30 ∧ ids.length ≠ l.length)) :
    Calls Try.prog 5 #[.slice ia ids.length ic, .slice ra l.length rc, .int .u8 raw] w (RetB (.bool true) w) := by
  have HI := Lib.hid hI
  have HR := Lib.hid hR
  have HRA := Lib.hid hA
  clear hI hR hA
  rcases hno with h | ⟨h, hne⟩
  · have HF := Lib.hid (fewRB_no h)
    clear h
    go_enter Try.func5, Try.ntmps5
    go_wp2_with fail
    refine Calls.mono (head_any _) ?_
    rintro e w1 ⟨rfl, hb1⟩
    have HB1 := Lib.hid hb1
    clear hb1
    go_wp2_with fail
    have hf := few_any ids l ia ra ic rc w1 (HI.out.later HB1.out) (HR.out.later HB1.out) (HRA.out.later HB1.out)
    rw [HF.out] at hf
    refine Calls.mono hf ?_
    rintro e w2 ⟨rfl, rfl⟩
    clear hf
    go_wp2_with fail
    go_ret
    exact retB rfl HB1.out
  · have HF := Lib.hid (fewRB_yes h)
    have d1 : (ids.length == l.length) = false := by simpa using hne
    have d2 : ((ids.length : Int) == (l.length : Int)) = false := by simp; omega
    clear h hne
    go_enter Try.func5, Try.ntmps5
    go_wp2_with fail
    refine Calls.mono (head_any _) ?_
    rintro e w1 ⟨rfl, hb1⟩
    have HB1 := Lib.hid hb1
    clear hb1
    go_wp2_with fail
    have hf := few_any ids l ia ra ic rc w1 (HI.out.later HB1.out) (HR.out.later HB1.out) (HRA.out.later HB1.out)
    rw [HF.out] at hf
    refine Calls.mono hf ?_
    rintro e w2 ⟨rfl, rfl⟩
    clear hf
    go_wp2_with fail
    go_ret
    exact retB rfl HB1.out
set_option maxRecDepth 100000 in
set_option maxHeartbeats 4000000 in
theorem yes (ids : List ByteArray) (l : List Rec) (ia ra : Option Addr) (ic rc : Nat) (raw : Int) (hr0 : 0 ≤ raw) (hr1 : raw < 256) (w : World) (hI : ES.At w ia ids) (hR : ER.At w ra l) (hA : RecAll w l) (hf0 : FewR ids l 30) (hlen : ids.length = l.length) :
    Calls Try.prog 5 #[.slice ia ids.length ic, .slice ra l.length rc, .int .u8 raw] w (RetB (.bool true) w) := by
  have HI := Lib.hid hI
  have HR := Lib.hid hR
  have HRA := Lib.hid hA
  have HFE := Lib.hid hf0
  have HF := Lib.hid (fewRB_yes hf0)
  have HLEN := Lib.hid hlen
  have hl30 := hf0.1
  obtain ⟨n, hn⟩ : ∃ n, n = l.length := ⟨_, rfl⟩
  have HN := Lib.hid hn
  have HFEW := Lib.hid (show ∀ wy, ES.At wy ia ids → ER.At wy ra l → RecAll wy l → Calls Try.prog 10 #[.slice ia n ic, .slice ra n rc] wy (RetS (.bool true) wy) from fun wy h1 h2 h3 => by
    have h := few_any ids l ia ra ic rc wy h1 h2 h3
    rw [HF.out, hlen, ← hn] at h
    exact h)
  have HALL := Lib.hid (show ∀ wy, ES.At wy ia ids → ER.At wy ra l → RecAll wy l → Calls Try.prog 11 #[.slice ia n ic, .slice ra n rc] wy (RetH wy (runH (ids.zip l))) from fun wy h1 h2 h3 => by
    have h := all_any ids l ia ra ic rc wy h1 h2 h3 (HFE.out.few (by omega))
    rw [show allH ids l = runH (ids.zip l) from if_pos hlen, hlen, ← hn] at h
    exact h)
  rw [hlen, ← hn]
  rw [← hn] at hl30
  have e0 : ((n : Int) == (n : Int)) = true := by simp
  clear hI hR hA hf0 hlen hn
  go_enter Try.func5, Try.ntmps5
  go_wp2_with fail
  refine Calls.mono (head_any _) ?_
  rintro e w1 ⟨rfl, hb1⟩
  have HB1 := Lib.hid hb1
  clear hb1
  go_wp2_with fail
  refine Calls.mono (HFEW.out w1 (HI.out.later HB1.out) (HR.out.later HB1.out) (HRA.out.later HB1.out)) ?_
  rintro e w2 ⟨rfl, rfl⟩
  go_wp2_with fail
  refine Calls.mono (HALL.out w1 (HI.out.later HB1.out) (HR.out.later HB1.out) (HRA.out.later HB1.out)) ?_
  rintro e w3 ⟨aA, cA, LA, rfl, hA1, hA2, hA3, hA4, hA5, _, hb3⟩
  have HAA := Lib.hid hA2
  have HAL := Lib.hid hA3
  have HB3 := Lib.hid (HB1.out.trans (hb3.mono HB1.out.size))
  have HRUN := Lib.hid hA1
  obtain ⟨m, hm⟩ : ∃ m, m = LA.length := ⟨_, rfl⟩
  have HM := Lib.hid hm
  rw [← hm] at hA4 ⊢
  have hm30 : m ≤ 1000 := by
    have h1 := runH_len (ids.zip l)
    have h2 := congrArg List.length hA1
    rw [List.length_map] at h2
    rw [List.length_zip] at h1
    have := HN.out
    omega
  clear hA1 hA2 hA3 hb3 hm
  rcases Nat.eq_zero_or_pos m with h0 | h0
  · have em : ((m : Int) == (0 : Int)) = true := by simp; omega
    clear h0
    go_wp2_with fail
    go_ret
    exact retB rfl HB3.out
  · have em : ((m : Int) == (0 : Int)) = false := by simp; omega
    have emn : ¬ m = 0 := by omega
    obtain ⟨kk, hkk, hkm⟩ : ∃ kk : Nat, raw.tmod (m : Int) = (kk : Int) ∧ kk < m := by
      have h1 := Int.tmod_nonneg (m : Int) hr0
      have h2 := Int.tmod_lt_of_pos raw (show (0 : Int) < (m : Int) by omega)
      exact ⟨(raw.tmod (m : Int)).toNat, by omega, by omega⟩
    have hw8 : IntKind.i64.wrap raw = raw := IntWalk.i64_in _ (by omega)
    have hkA : kk < LA.length := by have := HM.out; omega
    obtain ⟨ab, ao, rfl, _⟩ := HAA.out.head (by omega)
    obtain ⟨c0, c1, c2, c3⟩ := hd_cells HAA.out hkA
    have hxH := HAL.out _ (List.getElem_mem hkA)
    have hxR : (runH (ids.zip l))[kk]? = some LA[kk].1 := by
      rw [← HRUN.out, List.getElem?_map, List.getElem?_eq_getElem hkA]
      rfl
    have hne := run_mem (ids.zip l) LA[kk].1 (List.mem_of_getElem? hxR)
    obtain ⟨x, hxe⟩ : ∃ x, x = LA[kk] := ⟨_, rfl⟩
    rw [← hxe] at c0 c1 c2 c3 hxH hxR hne
    obtain ⟨p, hp⟩ : ∃ p, p + 1 = x.1.mem.length := ⟨x.1.mem.length - 1, by have := List.length_pos_iff.2 hne; omega⟩
    have hpl := hxH.ml
    rw [← hp] at c2 hpl
    have hkk0 : (0 : Int) ≤ (kk : Int) := by omega
    have hkkm : (kk : Int) < (m : Int) := by omega
    have HXH := Lib.hid hxH
    have HXR := Lib.hid hxR
    have HP := Lib.hid hp
    clear hxH hxR hne hxe hp em h0
    obtain ⟨q, hq⟩ : ∃ q, q = p + 1 := ⟨_, rfl⟩
    have hpq : p < x.1.mem.length := by have := HP.out; omega
    obtain ⟨mb, mo, hma, hmp⟩ := HXH.out.m p hpq
    obtain ⟨la, hla⟩ : ∃ la, la = ig x.1.mem p := ⟨_, rfl⟩
    rw [← hla] at hmp
    have HLA := Lib.hid (show x.1.mem[p]? = some la from by rw [hla, ig_lt hpq]; exact List.getElem?_eq_getElem hpq)
    have HMP := Lib.hid hmp
    rw [hma, ← hq] at c2
    have HMA := Lib.hid (show ∀ j, j < x.1.mem.length → w3.cell? ⟨mb, mo + j, none⟩ = some (.int .i64 (ig x.1.mem j)) from fun j hj => by
      obtain ⟨b', o', e', hc⟩ := HXH.out.m j hj
      rw [hma] at e'
      cases e'
      exact hc)
    have hidz : x.1.id.size ≤ 100 := by
      obtain ⟨y, hy, e⟩ := runH_ids (ids.zip l) x.1 (List.mem_of_getElem? HXR.out)
      rw [e]
      exact HFE.out.2.2.2 _ (List.of_mem_zip hy).1
    have HAV := Lib.hid (show ∀ (R : List Rec) wy vN vR, Below w3.heap.size w3 wy → (∀ r ∈ R, r.kind = 6 ∧ r.target = x.1.id ∧ r.members = [] ∧ RecF r ∧ r.ma = none) → R.length ≤ 500 → ES.Own wy w3.heap.size vN (ids ++ List.replicate R.length nonS) → ER.Own wy w3.heap.size vR (l ++ R) → Calls Try.prog 11 #[vN, vR] wy (RetN (l ++ R) wy ((runH (ids.zip l)).map (fun h => R.foldl (fun k r => backH r k) h))) from fun R wy vN vR hb hRR hRl hoN hoR => by
      obtain ⟨an, cn, rfl, _, _, hatN, _⟩ := hoN.at
      obtain ⟨ar, cr, rfl, _, _, hatR, _⟩ := hoR.at
      have hbw := HB3.out.trans (hb.mono HB3.out.size)
      have hlN : (ids ++ List.replicate R.length nonS).length = (l ++ R).length := by have := HLEN.out; simp; omega
      have h := all_new _ _ an ar cn cr wy hatN hatR (fun r hr => by
        rcases List.mem_append.1 hr with hr | hr
        · exact (HRA.out.later hbw) r hr
        · obtain ⟨_, _, h3, h4, h5⟩ := hRR r hr
          exact ⟨h4, by rw [h3]; exact fun j hj => absurd hj (by simp)⟩) ⟨by have := HN.out; simp; omega, fun s hs => by
        rcases List.mem_append.1 hs with hs | hs
        · have := HFE.out.2.2.2 s hs; omega
        · rw [List.eq_of_mem_replicate hs]; decide, fun r hr => by
        rcases List.mem_append.1 hr with hr | hr
        · have := (HFE.out.2.2.1 r hr).2.2; omega
        · rw [(hRR r hr).2.1]; omega⟩
      rw [show allH (ids ++ List.replicate R.length nonS) (l ++ R) = runH (ids.zip l ++ (List.replicate R.length nonS).zip R) from by
        unfold allH
        rw [if_pos hlN, List.zip_append HLEN.out], run_backs _ _ (fun y hy => (hRR _ (List.of_mem_zip hy).2).1), List.map_snd_zip (by simp)] at h
      exact h)
    have hwp : IntKind.i64.wrap ((q : Int) - 1) = (p : Int) := by rw [IntWalk.i64_in _ (by omega)]; omega
    have hq0 : ((q : Int) == (0 : Int)) = false := by simp; omega
    have hqn : ¬ q = 0 := by omega
    have p0 : (0 : Int) ≤ (p : Int) := by omega
    have p1 : (p : Int) < (q : Int) := by omega
    have hp20 : p ≤ 20 := by
      have h1 := run_mem20 (ids.zip l) 20 (fun y hy => (HFE.out.2.2.1 _ (List.of_mem_zip hy).2).1) x.1 (List.mem_of_getElem? HXR.out)
      have := HP.out
      omega
    have HQ := Lib.hid hq
    clear hq hpq hmp hla
    go_upto_region 9 with fail
    obtain ⟨w4, T, hT, hB4, hTY, hBX, hw4⟩ : ∃ w4 T, T = w3.heap.size ∧ Below w3.heap.size w3 w4 ∧ IsTy w4 T 31 ∧ BoxAt w4 T [.string x.1.id, .string x.1.veh, .slice (some ⟨mb, mo, none⟩) q x.2.2.1, .slice x.2.2.2.1 x.1.back.length x.2.2.2.2] ∧ w4 = w3.alloc (.cells #[.string x.1.id, .string x.1.veh, .slice (some ⟨mb, mo, none⟩) q x.2.2.1, .slice x.2.2.2.1 x.1.back.length x.2.2.2.2] 31) := ⟨_, _, rfl, (Below.refl _ _).alloc (Nat.le_refl _) _, ⟨_, heap_alloc_new w3 _⟩, BoxAt.new w3 _ _, rfl⟩
    rw [← hw4, ← hT]
    have hs4 : w4.heap.size = w3.heap.size + 1 := by rw [hw4, World.size_alloc]
    have HT := Lib.hid hT
    have hbA : Below w4.heap.size w4 (w4.alloc (.cells #[] 54)) := (Below.refl _ _).alloc (Nat.le_refl _) _
    obtain ⟨v12, w5, hr5, ho5, hg5, _⟩ := El.app (E := ER) (w4.alloc (.cells #[] 54)) w3.heap.size (.slice (some ⟨w4.heap.size, 0, none⟩) 0 0) [] l (El.Own.lit (E := ER) w4 w3.heap.size (by omega) [] (by simp) #[] rfl) ra rc (((HR.out.later HB3.out).later hB4).later hbA) (by have := HN.out; simp; omega) (by simp; omega) 23
    have hb5 : Below w3.heap.size w3 w5 := (hB4.trans (hbA.mono (by omega))).grown hg5 (by simp; omega) (fun g hg => by have hg' : some w4.heap.size = some g := hg; simp only [Option.some.injEq] at hg'; omega)
    have hTn : T < w4.heap.size := hTY.lt
    have hTY5 : IsTy w5 T 31 := hTY.block ((hg5.block T (by simp; omega) (fun e => by have e' : some T = some w4.heap.size := e; simp only [Option.some.injEq] at e'; omega)).trans (hbA.block T hTn))
    have hBX5 := (hBX.later hbA).block (hg5.block T (by simp; omega) (fun e => by have e' : some T = some w4.heap.size := e; simp only [Option.some.injEq] at e'; omega))
    have hbB : Below w5.heap.size w5 (w5.alloc (.cells #[] 9)) := (Below.refl _ _).alloc (Nat.le_refl _) _
    have hb5' : Below w.heap.size w w5 := HB3.out.trans (hb5.mono HB3.out.size)
    obtain ⟨v13, w7, hr7, ho7, hg7, _⟩ := El.app (E := ES) (w5.alloc (.cells #[] 9)) w3.heap.size (.slice (some ⟨w5.heap.size, 0, none⟩) 0 0) [] ids (El.Own.lit (E := ES) w5 w3.heap.size hb5.size [] (by simp) #[] rfl) ia ic ((HI.out.later hb5').later hbB) (by have := HN.out; have := HLEN.out; simp; omega) (by have := hb5.size; simp; omega) 22
    have hb7 : Below w3.heap.size w3 w7 := (hb5.trans (hbB.mono hb5.size)).grown hg7 (by have := hb5.size; simp; omega) (fun g hg => by have hg' : some w5.heap.size = some g := hg; simp only [Option.some.injEq] at hg'; have := hb5.size; omega)
    have hT5 : T < w5.heap.size := hTY5.lt
    have hTY7 : IsTy w7 T 31 := hTY5.block ((hg7.block T (by simp; omega) (fun e => by have e' : some T = some w5.heap.size := e; simp only [Option.some.injEq] at e'; omega)).trans (hbB.block T hT5))
    have hBX7 := (hBX5.later hbB).block (hg7.block T (by simp; omega) (fun e => by have e' : some T = some w5.heap.size := e; simp only [Option.some.injEq] at e'; omega))
    have ho5B := ho5.later hbB
    have ho57 : ER.Own w7 w3.heap.size v12 l := ho5B.block fun g hg => hg7.block g (ho5B.lt g hg).2 fun e => by
      have e' : some g = some w5.heap.size := e
      simp only [Option.some.injEq] at e'
      exact absurd (ho5.lt _ hg).2 (by omega)
    rw [← HN.out] at hr5
    rw [HLEN.out, ← HN.out] at hr7
    have HR5 := Lib.hid hr5
    have HR7 := Lib.hid hr7
    have HB7 := Lib.hid hb7
    have HTY7 := Lib.hid hTY7
    have HBX7 := Lib.hid hBX7
    have HO57 := Lib.hid ho57
    have HO7 := Lib.hid ho7
    have q2 := (hBX 2 _ rfl).1
    clear hw4 hs4 hT hB4 hTY hBX hbA hr5 ho5 hg5 hb5 hTY5 hBX5 hbB hr7 ho7 hg7 hb7 hTY7 hBX7 ho5B ho57 hT5 hTn hb5'
    go_wp2_with (at_builtin; first | (refine wpList_app_eq rfl _ _ _ rfl _ _ rfl rfl HR5.out ?_) | (refine wpList_app_eq rfl _ _ _ rfl _ _ rfl rfl HR7.out ?_))
    go_loopg [12, 13, 14] (p + 1) (fun k v12 v13 v14 wr => ∃ i, i ≤ p ∧ k + i = p + 1 ∧ v14 = .int .i64 i ∧ Below w3.heap.size w3 wr ∧ ER.Own wr w3.heap.size v12 (l ++ butR x.1 la i) ∧ ES.Own wr w3.heap.size v13 (ids ++ List.replicate (butR x.1 la i).length nonS) ∧ IsTy wr T 31 ∧ BoxAt wr T [.string x.1.id, .string x.1.veh, .slice (some ⟨mb, mo, none⟩) q x.2.2.1, .slice x.2.2.2.1 x.1.back.length x.2.2.2.2])
    case atStart => exact ⟨0, by omega, by omega, rfl, HB7.out, by simpa [butR_zero] using HO57.out, by simpa [butR_zero] using HO7.out, HTY7.out, HBX7.out⟩
    case round =>
      obtain ⟨i, hi, hki, rfl, hbr, ho1, ho2, hty, hbx⟩ := hrel
      have HBR := Lib.hid hbr
      have HO1 := Lib.hid ho1
      have HO2 := Lib.hid ho2
      have HTY := Lib.hid hty
      have HBX := Lib.hid hbx
      have q0 := (hbx 0 _ rfl).1
      have q2 := (hbx 2 _ rfl).1
      have hmp := cell_later hbr HMP.out
      by_cases hlt : i < p
      · have hmi := cell_later hbr (HMA.out i (by have := HP.out; omega))
        have hiM : i < x.1.mem.length := by have := HP.out; omega
        have hbs := butR_succ (h := x.1) (a := la) hiM
        have hge : ig x.1.mem i = x.1.mem[i] := ig_lt hiM
        obtain ⟨ai, hai⟩ : ∃ ai, ai = ig x.1.mem i := ⟨_, rfl⟩
        rw [← hge, ← hai] at hbs
        rw [← hai] at hmi
        have HBS := Lib.hid hbs
        have HAI := Lib.hid hai
        have i0 : (0 : Int) ≤ (i : Int) := by omega
        have i1 : (i : Int) < (q : Int) := by omega
        have i2 : (i : Int) < (p : Int) := by omega
        have hS : ∀ wy : World, Below wr.heap.size wr wy → wy.cell? ⟨T, 2, none⟩ = some (.slice (some ⟨mb, mo, none⟩) q x.2.2.1) ∧ wy.cell? ⟨mb, mo + i, none⟩ = some (.int .i64 ai) ∧ wy.cell? ⟨mb, mo + p, none⟩ = some (.int .i64 la) := fun wy hy => ⟨cell_later hy q2, cell_later hy hmi, cell_later hy hmp⟩
        clear hbr ho1 ho2 hty hbx hbs hge hai
        cases hcmp : (ai == la)
        · have hne : ¬ ai = la := by simpa using hcmp
          go_wp2_with fail
          refine wp_flow_s [] [] (by kernel_rfl) (by kernel_rfl) (by kernel_rfl) ?_
          repeat (first | ((with_reducible refine Flow.pure hS StayG.nil (v := ?_) ?_ ?_ ?_ ?_); rotate_left 1; (focus kernel_rfl); (focus (intro _; rfl)); (focus (intro β wx hSw; (try dsimp only at hSw); go_simp; (try with_reducible rfl); done)); (try simp only [Act.put, List.setIfInBounds_toArray, List.set_cons_zero, List.set_cons_succ, Nat.reduceAdd])) | ((with_reducible refine Flow.skip StayG.nil ?_ ?_ ?_); (focus kernel_rfl); (focus (intro _; rfl)); (try simp only [Act.put, List.setIfInBounds_toArray, List.set_cons_zero, List.set_cons_succ, Nat.reduceAdd])))
          ((with_reducible refine Flow.stop ?_); dsimp only; intro β w8 hI8)
          have hb8 := hI8.below
          have hB8 := HBR.out.trans (hb8.mono HBR.out.size)
          have HB8 := Lib.hid hB8
          have ho18 := HO1.out.later hb8
          have ho28 := HO2.out.later hb8
          have hty8 : IsTy w8 T 31 := HTY.out.block (hb8.block T HTY.out.lt)
          have hbx8 := HBX.out.later hb8
          have HO28 := Lib.hid ho28
          have HTY8 := Lib.hid hty8
          have HBX8 := Lib.hid hbx8
          have hms := cell_later hB8 (HMA.out i (by have := HP.out; omega))
          rw [← HAI.out] at hms
          have HST := Lib.hid (show Sd ER w8 w3.heap.size u12 (l ++ butR x.1 la i) (backR ai x.1.id) undef undef false false w8.drew from Sd.start ho18)
          have HV12 := Lib.hid (show ∀ g, u12.ownBlock = some g → w3.heap.size ≤ g ∧ g < w8.heap.size ∧ IsTy w8 g 54 from fun g hg => ⟨(ho18.lt g hg).1, (ho18.lt g hg).2, ho18.ty hg⟩)
          have hmb : mb < w3.heap.size := World.block_lt_of_cell? _ _ HMP.out
          have HFC := Lib.hid (show ∀ w', Chg (fun k => u12.ownBlock = some k) w8 w' → w'.cell? ⟨T, 0, none⟩ = some (.string x.1.id) ∧ w'.cell? ⟨T, 2, none⟩ = some (.slice (some ⟨mb, mo, none⟩) q x.2.2.1) ∧ w'.cell? ⟨mb, mo + i, none⟩ = some (.int .i64 ai) from fun w' hc => ⟨hc.cell (HBX8.out 0 _ rfl).1 (fun e => absurd rfl ((HV12.out T e).2.2.ne HTY8.out (by decide))), hc.cell (HBX8.out 2 _ rfl).1 (fun e => absurd rfl ((HV12.out T e).2.2.ne HTY8.out (by decide))), hc.cell hms (fun e => by have := (HV12.out mb e).1; omega)⟩)
          have hRl : (l ++ butR x.1 la i).length ≤ 10000 := by have := butR_len x.1 la i; have := HN.out; simp; omega
          have HBK := Lib.hid (show ∀ wy, Calls Try.prog 19 #[.int .i64 ai, .string x.1.id] wy (RetB (.agg (backR ai x.1.id).cs.toArray) wy) from fun wy => back_any ai x.1.id wy)
          have hfold := fold_rec (backR ai x.1.id)
          obtain ⟨rr, hrr⟩ : ∃ rr, rr = backR ai x.1.id := ⟨_, rfl⟩
          have hcl := rr.hl
          rw [← hrr] at HST HBK hfold
          have HRR := Lib.hid hrr
          have hz8 := HB8.out.size
          clear hb8 hB8 ho18 ho28 hty8 hbx8 hms hI8 hS hrr hmi hmp q0 q2
          go_wp2_with fail
          refine wp_flow_j (fun β L' w' => Chg (fun k => u12.ownBlock = some k) w8 w' ∧ Sd ER w8 w3.heap.size u12 (l ++ butR x.1 la i) rr (β 9) (β 10) (L' 9) (L' 10) w') (by kernel_rfl) (by kernel_rfl) ?h0 ?_
          case h0 => exact ⟨(Chg.refl _ _).drew, HST.out⟩
          ((with_reducible refine FlowJ.pure (v := ?_) ?_ ?_ ?_ ?_); rotate_left 1; (focus (intro _; rfl)); (focus (intro β L' w' hJ hat; (try dsimp only at hJ); (try dsimp only); simpa only [setL, Nat.reduceEqDiff, if_false] using hJ)); (focus (intro β L' w' hJ hat; (try dsimp only at hJ); skip; go_simp; (try with_reducible rfl); done)); (try simp only [Act.put, List.setIfInBounds_toArray, List.set_cons_zero, List.set_cons_succ, Nat.reduceAdd]))
          ((with_reducible refine FlowJ.pure (v := ?_) ?_ ?_ ?_ ?_); rotate_left 1; (focus (intro _; rfl)); (focus (intro β L' w' hJ hat; (try dsimp only at hJ); (try dsimp only); simpa only [setL, Nat.reduceEqDiff, if_false] using hJ)); (focus (intro β L' w' hJ hat; (try dsimp only at hJ); skip; go_simp; (try with_reducible rfl); done)); (try simp only [Act.put, List.setIfInBounds_toArray, List.set_cons_zero, List.set_cons_succ, Nat.reduceAdd]))
          ((with_reducible refine FlowJ.pure (v := ?_) ?_ ?_ ?_ ?_); rotate_left 1; (focus (intro _; rfl)); (focus (intro β L' w' hJ hat; (try dsimp only at hJ); (try dsimp only); simpa only [setL, Nat.reduceEqDiff, if_false] using hJ)); (focus (intro β L' w' hJ hat; (try dsimp only at hJ); (obtain ⟨f0, f2, fm⟩ := HFC.out _ hJ.1); go_simp; (try with_reducible rfl); done)); (try simp only [Act.put, List.setIfInBounds_toArray, List.set_cons_zero, List.set_cons_succ, Nat.reduceAdd]))
          ((with_reducible refine FlowJ.pure (v := ?_) ?_ ?_ ?_ ?_); rotate_left 1; (focus (intro _; rfl)); (focus (intro β L' w' hJ hat; (try dsimp only at hJ); (try dsimp only); simpa only [setL, Nat.reduceEqDiff, if_false] using hJ)); (focus (intro β L' w' hJ hat; (try dsimp only at hJ); skip; go_simp; (try with_reducible rfl); done)); (try simp only [Act.put, List.setIfInBounds_toArray, List.set_cons_zero, List.set_cons_succ, Nat.reduceAdd]))
          ((with_reducible refine FlowJ.pure (v := ?_) ?_ ?_ ?_ ?_); rotate_left 1; (focus (intro _; rfl)); (focus (intro β L' w' hJ hat; (try dsimp only at hJ); (try dsimp only); simpa only [setL, Nat.reduceEqDiff, if_false] using hJ)); (focus (intro β L' w' hJ hat; (try dsimp only at hJ); skip; go_simp; (try with_reducible rfl); done)); (try simp only [Act.put, List.setIfInBounds_toArray, List.set_cons_zero, List.set_cons_succ, Nat.reduceAdd]))
          ((with_reducible refine FlowJ.pure (v := ?_) ?_ ?_ ?_ ?_); rotate_left 1; (focus (intro _; rfl)); (focus (intro β L' w' hJ hat; (try dsimp only at hJ); (try dsimp only); simpa only [setL, Nat.reduceEqDiff, if_false] using hJ)); (focus (intro β L' w' hJ hat; (try dsimp only at hJ); (obtain ⟨f0, f2, fm⟩ := HFC.out _ hJ.1); go_simp; (try with_reducible rfl); done)); (try simp only [Act.put, List.setIfInBounds_toArray, List.set_cons_zero, List.set_cons_succ, Nat.reduceAdd]))
          ((with_reducible refine FlowJ.pure (v := ?_) ?_ ?_ ?_ ?_); rotate_left 1; (focus (intro _; rfl)); (focus (intro β L' w' hJ hat; (try dsimp only at hJ); (try dsimp only); simpa only [setL, Nat.reduceEqDiff, if_false] using hJ)); (focus (intro β L' w' hJ hat; (try dsimp only at hJ); skip; go_simp; (try with_reducible rfl); done)); (try simp only [Act.put, List.setIfInBounds_toArray, List.set_cons_zero, List.set_cons_succ, Nat.reduceAdd]))
          ((with_reducible refine FlowJ.pure (v := ?_) ?_ ?_ ?_ ?_); rotate_left 1; (focus (intro _; rfl)); (focus (intro β L' w' hJ hat; (try dsimp only at hJ); (try dsimp only); simpa only [setL, Nat.reduceEqDiff, if_false] using hJ)); (focus (intro β L' w' hJ hat; (try dsimp only at hJ); (obtain ⟨f0, f2, fm⟩ := HFC.out _ hJ.1); go_simp; (try with_reducible rfl); done)); (try simp only [Act.put, List.setIfInBounds_toArray, List.set_cons_zero, List.set_cons_succ, Nat.reduceAdd]))
          ((with_reducible refine FlowJ.call (v := ?_) ?_ ?_ ?_); rotate_left 1; (focus (intro _; rfl)); (focus (intro β L' w' hJ hat K' hK; (try dsimp only at hJ); ((have n9 := hat.not (j := 9) (by kernel_rfl)); (have n10 := hat.not (j := 10) (by kernel_rfl)); have un := hat.un; simp only [un, n9, n10] at hJ; go_simp; go_at_call 19; refine Calls.mono (HBK.out _) ?_; rintro e w'' ⟨rfl, hb'⟩; refine hK.out _ ?_; simp only [setL, Nat.reduceEqDiff, if_true, if_false, n9, n10]; exact ⟨hJ.1.trans (Chg.of_below hb'), hJ.2.later hb'⟩))); (try simp only [Act.put, List.setIfInBounds_toArray, List.set_cons_zero, List.set_cons_succ, Nat.reduceAdd]))
          ((with_reducible refine FlowJ.ghost ?_ ?_ ?_); (focus (intro _; rfl)); (focus (intro β L' w' hJ hat K' hK; (try dsimp only at hJ); ((have n10 := hat.not (j := 10) (by kernel_rfl)); have un := hat.un; simp only [un, n10] at hJ; go_simp; refine hK.out _ _ ?_; simp only [updG, setL, Nat.reduceEqDiff, if_true, if_false, n10]; exact ⟨hJ.1.alloc _, hJ.2.made hJ.1.size _ rfl _⟩))); (try simp only [Act.put, List.setIfInBounds_toArray, List.set_cons_zero, List.set_cons_succ, Nat.reduceAdd]))
          ((with_reducible refine FlowJ.ghost ?_ ?_ ?_); (focus (intro _; rfl)); (focus (intro β L' w' hJ hat K' hK; (try dsimp only at hJ); ((have p9 := hat.pre 9 (by kernel_rfl)); have un := hat.un; simp only [un, p9] at hJ; obtain ⟨v', w2, hr, hs, hg⟩ := hJ.2.run hRl (by have := hJ.1.size; omega) 23; refine wp_app_eq (.tmp 75) (.tmp 84) 23 rfl _ _ rfl rfl hr ?_; refine hK.out _ _ ?_; simp only [updG, setL, Nat.reduceEqDiff, if_true, if_false, p9]; exact ⟨hJ.1.grown hg fun k hk _ => hk, hs⟩))); (try simp only [Act.put, List.setIfInBounds_toArray, List.set_cons_zero, List.set_cons_succ, Nat.reduceAdd]))
          (refine FlowJ.pureG (v := fun β => β 10) (fun β k b hk => updG_ne β b (fun e => by subst e; exact Bool.false_ne_true (hk.symm.trans (by kernel_rfl)))) (fun β b => rfl) (fun _ => rfl) (fun β L' w' hJ hat => by simpa only [setL, Nat.reduceEqDiff, if_false] using hJ) (fun β L' w' hJ hat => by go_simp; (try with_reducible rfl); done) ?_; (try simp only [Act.put, List.setIfInBounds_toArray, List.set_cons_zero, List.set_cons_succ, Nat.reduceAdd]))
          refine FlowJ.stop ?_
          dsimp only
          intro β2 w9 hJ
          obtain ⟨hJ1, hJ2⟩ := hJ
          have hso := hJ2.o1 rfl
          rw [List.append_assoc] at hso
          have hb9 : Below w3.heap.size w3 w9 := HB8.out.trans (hJ1.below HB8.out.size fun k hk => (HV12.out k hk).1)
          have hty9 : IsTy w9 T 31 := HTY8.out.block (hJ1.block T HTY8.out.lt fun e => absurd rfl ((HV12.out T e).2.2.ne HTY8.out (by decide)))
          have hbx9 := HBX8.out.block (hJ1.block T HTY8.out.lt fun e => absurd rfl ((HV12.out T e).2.2.ne HTY8.out (by decide)))
          have ho9 := HO28.out.block (w' := w9) fun g hg => hJ1.block g (HO28.out.lt g hg).2 fun e => absurd rfl ((HV12.out g e).2.2.ne (HO28.out.ty hg) (by decide))
          have hbC : Below w9.heap.size w9 (w9.alloc (.cells #[.string nonS] 9)) := (Below.refl _ _).alloc (Nat.le_refl _) _
          obtain ⟨vb, w11, hr11, ho11, hg11, _⟩ := El.app (E := ES) (w9.alloc (.cells #[.string nonS] 9)) w3.heap.size _ _ [nonS] (ho9.later hbC) (some ⟨w9.heap.size, 0, none⟩) 1 (El.at_lit' ES w9 [nonS] #[.string nonS] 9 rfl) (by have := butR_len x.1 la i; have := HN.out; have := HLEN.out; simp; omega) (by have := hb9.size; simp; omega) 22
          have h13l : ∀ g, u13.ownBlock = some g → w3.heap.size ≤ g ∧ g < w9.heap.size ∧ IsTy w9 g 9 := fun g hg => ⟨(ho9.lt g hg).1, (ho9.lt g hg).2, ho9.ty hg⟩
          have hb11 : Below w3.heap.size w3 w11 := (hb9.trans (hbC.mono hb9.size)).grown hg11 (by have := hb9.size; simp; omega) (fun g hg => (h13l g hg).1)
          have hT9 := hty9.lt
          have hty11 : IsTy w11 T 31 := hty9.block ((hg11.block T (by simp; omega) (fun e => absurd rfl ((h13l T e.symm).2.2.ne hty9 (by decide)))).trans (hbC.block T hT9))
          have hbx11 := (hbx9.later hbC).block (hg11.block T (by simp; omega) (fun e => absurd rfl ((h13l T e.symm).2.2.ne hty9 (by decide))))
          have hsoC := hso.later hbC
          have ho12 := hsoC.block (w' := w11) fun g hg => hg11.block g (hsoC.lt g hg).2 fun e => absurd rfl ((h13l g e.symm).2.2.ne (hso.ty hg) (by decide))
          have HBS' := Lib.hid (show butR x.1 la (i + 1) = butR x.1 la i ++ [rr] from by rw [HBS.out, if_neg hne, HRR.out])
          rw [← HBS'.out] at ho12
          have e11 : ids ++ List.replicate (butR x.1 la i).length nonS ++ [nonS] = ids ++ List.replicate (butR x.1 la (i + 1)).length nonS := by
            rw [HBS'.out, List.length_append, List.length_singleton, List.replicate_succ', List.append_assoc]
          rw [e11] at ho11
          have HR11 := Lib.hid hr11
          have HO11 := Lib.hid ho11
          have HO12 := Lib.hid ho12
          have HB11 := Lib.hid hb11
          have HTY11 := Lib.hid hty11
          have HBX11 := Lib.hid hbx11
          generalize β2 10 = y10 at HO12 ⊢
          generalize β2 9 = y9
          clear hJ1 hJ2 hso hb9 hty9 hbx9 ho9 hbC hr11 ho11 hg11 h13l hb11 hT9 hty11 hbx11 hsoC ho12 e11 hfold
          go_wp2_with (at_builtin; go_loud (refine wpList_app_eq rfl _ _ _ rfl _ _ rfl rfl HR11.out ?_))
          go_roundg (p - i)
          case measure => omega
          case rel => exact ⟨i + 1, by omega, by omega, by go_num, HB11.out, HO12.out, HO11.out, HTY11.out, HBX11.out⟩
        · have hne : ai = la := by simpa using hcmp
          have HBS' := Lib.hid (show butR x.1 la (i + 1) = butR x.1 la i from by rw [HBS.out, if_pos hne, List.append_nil])
          go_wp2_with fail
          refine wp_flow_s [] [] (by kernel_rfl) (by kernel_rfl) (by kernel_rfl) ?_
          repeat (first | ((with_reducible refine Flow.pure hS StayG.nil (v := ?_) ?_ ?_ ?_ ?_); rotate_left 1; (focus kernel_rfl); (focus (intro _; rfl)); (focus (intro β wx hSw; (try dsimp only at hSw); go_simp; (try with_reducible rfl); done)); (try simp only [Act.put, List.setIfInBounds_toArray, List.set_cons_zero, List.set_cons_succ, Nat.reduceAdd])) | ((with_reducible refine Flow.skip StayG.nil ?_ ?_ ?_); (focus kernel_rfl); (focus (intro _; rfl)); (try simp only [Act.put, List.setIfInBounds_toArray, List.set_cons_zero, List.set_cons_succ, Nat.reduceAdd])))
          ((with_reducible refine Flow.stop ?_); dsimp only; intro β w8 hI8)
          have hb8 := hI8.below
          have HB8 := Lib.hid (HBR.out.trans (hb8.mono HBR.out.size))
          have HO18 := Lib.hid (HO1.out.later hb8)
          have HO28 := Lib.hid (HO2.out.later hb8)
          have HTY8 := Lib.hid (show IsTy w8 T 31 from HTY.out.block (hb8.block T HTY.out.lt))
          have HBX8 := Lib.hid (HBX.out.later hb8)
          clear hb8 hI8 hS hmi hmp q0 q2 hne
          go_wp2_with fail
          go_roundg (p - i)
          case measure => omega
          case rel => exact ⟨i + 1, by omega, by omega, by go_num, HB8.out, by rw [HBS'.out]; exact HO18.out, by rw [HBS'.out]; exact HO28.out, HTY8.out, HBX8.out⟩
      · obtain rfl : i = p := by omega
        have hz := hbr.size
        obtain ⟨R, hR⟩ : ∃ R, R = butR x.1 la i := ⟨_, rfl⟩
        have hRl : R.length ≤ 20 := by have := butR_len x.1 la i; rw [hR]; omega
        have hRk : ∀ r ∈ R, r.kind = 6 ∧ r.target = x.1.id ∧ r.members = [] ∧ RecF r ∧ r.ma = none := by rw [hR]; exact butR_kind x.1 la i
        have hRm := butR_most HP.out.symm HLA.out
        rw [← hR] at ho1 ho2 hRm
        have HRK := Lib.hid hRk
        have HRM := Lib.hid hRm
        have HO1 := Lib.hid ho1
        have HO2 := Lib.hid ho2
        have HC1 := Lib.hid (HAV.out R wr u13 u12 hbr hRk (by omega) ho2 ho1)
        clear hbr ho1 ho2 hty hbx hR hRk hRm q0 q2 hmp
        go_wp2_with fail
        refine Calls.mono HC1.out ?_
        rintro e w8 ⟨aB, cB, LB, rfl, hC1, hC2, hC3, hb8⟩
        have HBM := Lib.hid hC1
        have HBA := Lib.hid hC2
        have HBL := Lib.hid hC3
        obtain ⟨_, _, e2, hC4, hC5, _⟩ := hC2.at
        simp only [Value.slice.injEq, true_and] at e2
        obtain ⟨rfl, rfl⟩ := e2
        have hmB : LB.length = m := by
          have h1 := congrArg List.length hC1
          have h2 := congrArg List.length HRUN.out
          rw [List.length_map, List.length_map] at h1
          rw [List.length_map] at h2
          have := HM.out
          omega
        have HMB := Lib.hid hmB
        rw [hmB] at hC4 ⊢
        have hzr8 := hb8.size
        have HLO := Lib.hid (show (∀ g, u12.ownBlock = some g → g < wr.heap.size) ∧ ∀ g, u13.ownBlock = some g → g < wr.heap.size from ⟨fun g hg => (HO1.out.lt g hg).2, fun g hg => (HO2.out.lt g hg).2⟩)
        have hB8 := HBR.out.trans (hb8.mono HBR.out.size)
        have HB8 := Lib.hid hB8
        have ho18 := HO1.out.later hb8
        have ho28 := HO2.out.later hb8
        have hty8 : IsTy w8 T 31 := HTY.out.block (hb8.block T HTY.out.lt)
        have hbx8 := HBX.out.later hb8
        have HTY8 := Lib.hid hty8
        have HBX8 := Lib.hid hbx8
        have hms := cell_later hB8 HMP.out
        obtain ⟨rr, hrr⟩ : ∃ rr, rr = backR la x.1.id := ⟨_, rfl⟩
        have HST := Lib.hid (show Sd ER w8 w3.heap.size u12 (l ++ R) rr undef undef false false w8.drew from Sd.start ho18)
        have HSN := Lib.hid (show Sd ES w8 w3.heap.size u13 (ids ++ List.replicate R.length nonS) nonS undef undef false false w8.drew from Sd.start ho28)
        have HV12 := Lib.hid (show ∀ g, u12.ownBlock = some g → w3.heap.size ≤ g ∧ g < w8.heap.size ∧ IsTy w8 g 54 from fun g hg => ⟨(ho18.lt g hg).1, (ho18.lt g hg).2, ho18.ty hg⟩)
        have HV13 := Lib.hid (show ∀ g, u13.ownBlock = some g → w3.heap.size ≤ g ∧ g < w8.heap.size ∧ IsTy w8 g 9 from fun g hg => ⟨(ho28.lt g hg).1, (ho28.lt g hg).2, ho28.ty hg⟩)
        have hmb : mb < w3.heap.size := World.block_lt_of_cell? _ _ HMP.out
        have HFC := Lib.hid (show ∀ w', Chg (fun k => u12.ownBlock = some k ∨ u13.ownBlock = some k) w8 w' → w'.cell? ⟨T, 0, none⟩ = some (.string x.1.id) ∧ w'.cell? ⟨T, 2, none⟩ = some (.slice (some ⟨mb, mo, none⟩) q x.2.2.1) ∧ w'.cell? ⟨mb, mo + i, none⟩ = some (.int .i64 la) ∧ w'.cell? ⟨T, 3, none⟩ = some (.slice x.2.2.2.1 x.1.back.length x.2.2.2.2) from fun w' hc => by
          have hTn : ¬ (u12.ownBlock = some T ∨ u13.ownBlock = some T) := by
            rintro (e | e)
            · exact absurd rfl ((HV12.out T e).2.2.ne HTY8.out (by decide))
            · exact absurd rfl ((HV13.out T e).2.2.ne HTY8.out (by decide))
          exact ⟨hc.cell (HBX8.out 0 _ rfl).1 hTn, hc.cell (HBX8.out 2 _ rfl).1 hTn, hc.cell hms (fun e => by
            rcases e with e | e
            · have := (HV12.out mb e).1; omega
            · have := (HV13.out mb e).1; omega), hc.cell (HBX8.out 3 _ rfl).1 hTn⟩)
        have hRl2 : (l ++ R).length ≤ 10000 := by have := HN.out; simp; omega
        have hRl3 : (ids ++ List.replicate R.length nonS).length ≤ 10000 := by have := HN.out; have := HLEN.out; simp; omega
        have HBK := Lib.hid (show ∀ wy, Calls Try.prog 19 #[.int .i64 la, .string x.1.id] wy (RetB (.agg rr.cs.toArray) wy) from fun wy => by rw [hrr]; exact back_any la x.1.id wy)
        have hfold := fold_rec rr
        have hcl := rr.hl
        have HRR := Lib.hid hrr
        have hz8 := HB8.out.size
        have HAV2 := Lib.hid (show ∀ wy vN vR, Below w3.heap.size w3 wy → ES.Own wy w3.heap.size vN (ids ++ List.replicate R.length nonS ++ [nonS]) → ER.Own wy w3.heap.size vR (l ++ R ++ [rr]) → Calls Try.prog 11 #[vN, vR] wy (RetN (l ++ (R ++ [rr])) wy ((runH (ids.zip l)).map (fun h => (R ++ [rr]).foldl (fun k r => backH r k) h))) from fun wy vN vR h1 h2 h3 => HAV.out (R ++ [rr]) wy vN vR h1 (fun r hr => by
          rcases List.mem_append.1 hr with hr | hr
          · exact HRK.out r hr
          · rw [List.mem_singleton.1 hr, hrr]
            exact ⟨rfl, rfl, rfl, backF _ _, rfl⟩) (by simp; omega) (by rw [List.length_append, List.length_singleton, List.replicate_succ', ← List.append_assoc]; exact h2) (by rw [← List.append_assoc]; exact h3))
        have HOB := Lib.hid (show ∀ w', Chg (fun k => u12.ownBlock = some k ∨ u13.ownBlock = some k) w8 w' → Below w8.heap.size w8 w' ∨ True from fun _ _ => .inr trivial)
        have HLB := Lib.hid (show ∀ w', Chg (fun k => u12.ownBlock = some k ∨ u13.ownBlock = some k) w8 w' → Below w3.heap.size w3 w' from fun w' hc => HB8.out.trans (hc.below HB8.out.size fun k hk => by
          rcases hk with e | e
          · exact (HV12.out k e).1
          · exact (HV13.out k e).1))
        clear hb8 hB8 ho18 ho28 hty8 hbx8 hms hrr hC1 hC2 hC3
        go_wp2_with fail
        refine wp_flow_j (fun β L' w' => Chg (fun k => u12.ownBlock = some k ∨ u13.ownBlock = some k) w8 w' ∧ Sd ES w8 w3.heap.size u13 (ids ++ List.replicate R.length nonS) nonS (β 1) (β 2) (L' 1) (L' 2) w' ∧ Sd ER w8 w3.heap.size u12 (l ++ R) rr (β 13) (β 14) (L' 13) (L' 14) w' ∧ (L' 15 = true → ∃ aC cC LC, β 15 = .slice aC LC.length cC ∧ LC.map (·.1) = (runH (ids.zip l)).map (fun h => (R ++ [rr]).foldl (fun k r => backH r k) h) ∧ EH.Own w' w8.heap.size (.slice aC LC.length cC) LC ∧ ∀ y ∈ LC, (∃ r ∈ l ++ (R ++ [rr]), y.2.1 = r.ma ∧ y.1.mem = r.members) ∧ y.1.mem.length < 9223372036854775808 ∧ EI.Own w' w8.heap.size (.slice y.2.2.2.1 y.1.back.length y.2.2.2.2) y.1.back)) (by kernel_rfl) (by kernel_rfl) ?h1 ?_
        case h1 => exact ⟨(Chg.refl _ _).drew, HSN.out, HST.out, fun e => (by cases e)⟩
        ((with_reducible refine FlowJ.pure (v := ?_) ?_ ?_ ?_ ?_); rotate_left 1; (focus (intro _; rfl)); (focus (intro β L' w' hJ hat; (try dsimp only at hJ); (try dsimp only); simpa only [setL, Nat.reduceEqDiff, if_false] using hJ)); (focus (intro β L' w' hJ hat; (try dsimp only at hJ); skip; go_simp; (try with_reducible rfl); done)); (try simp only [Act.put, List.setIfInBounds_toArray, List.set_cons_zero, List.set_cons_succ, Nat.reduceAdd]))
        ((with_reducible refine FlowJ.ghost ?_ ?_ ?_); (focus (intro _; rfl)); (focus (intro β L' w' hJ hat K' hK; (try dsimp only at hJ); ((have n2 := hat.not (j := 2) (by kernel_rfl)); (have n15 := hat.not (j := 15) (by kernel_rfl)); have un := hat.un; simp only [un, n2, n15] at hJ; go_simp; refine hK.out _ _ ?_; simp only [updG, setL, Nat.reduceEqDiff, if_true, if_false, n2, n15]; exact ⟨hJ.1.alloc _, hJ.2.1.made hJ.1.size _ rfl _, hJ.2.2.1.later ((Below.refl _ _).alloc (Nat.le_refl _) _), fun e => by cases e⟩))); (try simp only [Act.put, List.setIfInBounds_toArray, List.set_cons_zero, List.set_cons_succ, Nat.reduceAdd]))
        ((with_reducible refine FlowJ.ghost ?_ ?_ ?_); (focus (intro _; rfl)); (focus (intro β L' w' hJ hat K' hK; (try dsimp only at hJ); ((have p1 := hat.pre 1 (by kernel_rfl)); (have n15 := hat.not (j := 15) (by kernel_rfl)); have un := hat.un; simp only [un, p1, n15] at hJ; obtain ⟨v', w2, hr, hs, hg⟩ := hJ.2.1.run hRl3 (by have := hJ.1.size; omega) 22; refine wp_app_eq (.tmp 92) (.tmp 93) 22 rfl _ _ rfl rfl hr ?_; refine hK.out _ _ ?_; simp only [updG, setL, Nat.reduceEqDiff, if_true, if_false, p1, n15]; exact ⟨hJ.1.grown hg fun k hk _ => .inr hk, hs, hJ.2.2.1.other hg (ownBlock_ty hJ.2.1) (by decide) (fun g hg => (HV13.out g hg).2.1), fun e => by cases e⟩))); (try simp only [Act.put, List.setIfInBounds_toArray, List.set_cons_zero, List.set_cons_succ, Nat.reduceAdd]))
        ((with_reducible refine FlowJ.pure (v := ?_) ?_ ?_ ?_ ?_); rotate_left 1; (focus (intro _; rfl)); (focus (intro β L' w' hJ hat; (try dsimp only at hJ); (try dsimp only); simpa only [setL, Nat.reduceEqDiff, if_false] using hJ)); (focus (intro β L' w' hJ hat; (try dsimp only at hJ); skip; go_simp; (try with_reducible rfl); done)); (try simp only [Act.put, List.setIfInBounds_toArray, List.set_cons_zero, List.set_cons_succ, Nat.reduceAdd]))
        ((with_reducible refine FlowJ.pure (v := ?_) ?_ ?_ ?_ ?_); rotate_left 1; (focus (intro _; rfl)); (focus (intro β L' w' hJ hat; (try dsimp only at hJ); (try dsimp only); simpa only [setL, Nat.reduceEqDiff, if_false] using hJ)); (focus (intro β L' w' hJ hat; (try dsimp only at hJ); skip; go_simp; (try with_reducible rfl); done)); (try simp only [Act.put, List.setIfInBounds_toArray, List.set_cons_zero, List.set_cons_succ, Nat.reduceAdd]))
        ((with_reducible refine FlowJ.pure (v := ?_) ?_ ?_ ?_ ?_); rotate_left 1; (focus (intro _; rfl)); (focus (intro β L' w' hJ hat; (try dsimp only at hJ); (try dsimp only); simpa only [setL, Nat.reduceEqDiff, if_false] using hJ)); (focus (intro β L' w' hJ hat; (try dsimp only at hJ); (obtain ⟨f0, f2, fm, f3⟩ := HFC.out _ hJ.1); go_simp; (try with_reducible rfl); done)); (try simp only [Act.put, List.setIfInBounds_toArray, List.set_cons_zero, List.set_cons_succ, Nat.reduceAdd]))
        ((with_reducible refine FlowJ.pure (v := ?_) ?_ ?_ ?_ ?_); rotate_left 1; (focus (intro _; rfl)); (focus (intro β L' w' hJ hat; (try dsimp only at hJ); (try dsimp only); simpa only [setL, Nat.reduceEqDiff, if_false] using hJ)); (focus (intro β L' w' hJ hat; (try dsimp only at hJ); skip; go_simp; (try with_reducible rfl); done)); (try simp only [Act.put, List.setIfInBounds_toArray, List.set_cons_zero, List.set_cons_succ, Nat.reduceAdd]))
        ((with_reducible refine FlowJ.pure (v := ?_) ?_ ?_ ?_ ?_); rotate_left 1; (focus (intro _; rfl)); (focus (intro β L' w' hJ hat; (try dsimp only at hJ); (try dsimp only); simpa only [setL, Nat.reduceEqDiff, if_false] using hJ)); (focus (intro β L' w' hJ hat; (try dsimp only at hJ); skip; go_simp; (try with_reducible rfl); done)); (try simp only [Act.put, List.setIfInBounds_toArray, List.set_cons_zero, List.set_cons_succ, Nat.reduceAdd]))
        ((with_reducible refine FlowJ.pure (v := ?_) ?_ ?_ ?_ ?_); rotate_left 1; (focus (intro _; rfl)); (focus (intro β L' w' hJ hat; (try dsimp only at hJ); (try dsimp only); simpa only [setL, Nat.reduceEqDiff, if_false] using hJ)); (focus (intro β L' w' hJ hat; (try dsimp only at hJ); skip; go_simp; (try with_reducible rfl); done)); (try simp only [Act.put, List.setIfInBounds_toArray, List.set_cons_zero, List.set_cons_succ, Nat.reduceAdd]))
        ((with_reducible refine FlowJ.pure (v := ?_) ?_ ?_ ?_ ?_); rotate_left 1; (focus (intro _; rfl)); (focus (intro β L' w' hJ hat; (try dsimp only at hJ); (try dsimp only); simpa only [setL, Nat.reduceEqDiff, if_false] using hJ)); (focus (intro β L' w' hJ hat; (try dsimp only at hJ); (obtain ⟨f0, f2, fm, f3⟩ := HFC.out _ hJ.1); go_simp; (try with_reducible rfl); done)); (try simp only [Act.put, List.setIfInBounds_toArray, List.set_cons_zero, List.set_cons_succ, Nat.reduceAdd]))
        ((with_reducible refine FlowJ.pure (v := ?_) ?_ ?_ ?_ ?_); rotate_left 1; (focus (intro _; rfl)); (focus (intro β L' w' hJ hat; (try dsimp only at hJ); (try dsimp only); simpa only [setL, Nat.reduceEqDiff, if_false] using hJ)); (focus (intro β L' w' hJ hat; (try dsimp only at hJ); skip; go_simp; (try with_reducible rfl); done)); (try simp only [Act.put, List.setIfInBounds_toArray, List.set_cons_zero, List.set_cons_succ, Nat.reduceAdd]))
        ((with_reducible refine FlowJ.pure (v := ?_) ?_ ?_ ?_ ?_); rotate_left 1; (focus (intro _; rfl)); (focus (intro β L' w' hJ hat; (try dsimp only at hJ); (try dsimp only); simpa only [setL, Nat.reduceEqDiff, if_false] using hJ)); (focus (intro β L' w' hJ hat; (try dsimp only at hJ); (obtain ⟨f0, f2, fm, f3⟩ := HFC.out _ hJ.1); go_simp; (try with_reducible rfl); done)); (try simp only [Act.put, List.setIfInBounds_toArray, List.set_cons_zero, List.set_cons_succ, Nat.reduceAdd]))
        ((with_reducible refine FlowJ.call (v := ?_) ?_ ?_ ?_); rotate_left 1; (focus (intro _; rfl)); (focus (intro β L' w' hJ hat K' hK; (try dsimp only at hJ); ((have n13 := hat.not (j := 13) (by kernel_rfl)); (have n14 := hat.not (j := 14) (by kernel_rfl)); (have n15 := hat.not (j := 15) (by kernel_rfl)); have un := hat.un; simp only [un, n13, n14, n15] at hJ; go_simp; go_at_call 19; refine Calls.mono (HBK.out _) ?_; rintro e w'' ⟨rfl, hb'⟩; refine hK.out _ ?_; simp only [setL, Nat.reduceEqDiff, if_true, if_false, n13, n14, n15]; exact ⟨hJ.1.trans (Chg.of_below hb'), hJ.2.1.later hb', hJ.2.2.1.later hb', fun e => by cases e⟩))); (try simp only [Act.put, List.setIfInBounds_toArray, List.set_cons_zero, List.set_cons_succ, Nat.reduceAdd]))
        ((with_reducible refine FlowJ.ghost ?_ ?_ ?_); (focus (intro _; rfl)); (focus (intro β L' w' hJ hat K' hK; (try dsimp only at hJ); ((have n14 := hat.not (j := 14) (by kernel_rfl)); (have n15 := hat.not (j := 15) (by kernel_rfl)); have un := hat.un; simp only [un, n14, n15] at hJ; go_simp; refine hK.out _ _ ?_; simp only [updG, setL, Nat.reduceEqDiff, if_true, if_false, n14, n15]; exact ⟨hJ.1.alloc _, hJ.2.1.later ((Below.refl _ _).alloc (Nat.le_refl _) _), hJ.2.2.1.made hJ.1.size _ rfl _, fun e => by cases e⟩))); (try simp only [Act.put, List.setIfInBounds_toArray, List.set_cons_zero, List.set_cons_succ, Nat.reduceAdd]))
        ((with_reducible refine FlowJ.ghost ?_ ?_ ?_); (focus (intro _; rfl)); (focus (intro β L' w' hJ hat K' hK; (try dsimp only at hJ); ((have p13 := hat.pre 13 (by kernel_rfl)); (have n15 := hat.not (j := 15) (by kernel_rfl)); have un := hat.un; simp only [un, p13, n15] at hJ; obtain ⟨v', w2, hr, hs, hg⟩ := hJ.2.2.1.run hRl2 (by have := hJ.1.size; omega) 23; refine wp_app_eq (.tmp 95) (.tmp 105) 23 rfl _ _ rfl rfl hr ?_; refine hK.out _ _ ?_; simp only [updG, setL, Nat.reduceEqDiff, if_true, if_false, p13, n15]; exact ⟨hJ.1.grown hg fun k hk _ => .inl hk, hJ.2.1.other hg (ownBlock_ty hJ.2.2.1) (by decide) (fun g hg => (HV12.out g hg).2.1), hs, fun e => by cases e⟩))); (try simp only [Act.put, List.setIfInBounds_toArray, List.set_cons_zero, List.set_cons_succ, Nat.reduceAdd]))
        ((with_reducible refine FlowJ.ghost ?_ ?_ ?_); (focus (intro _; rfl)); (focus (intro β L' w' hJ hat K' hK; (try dsimp only at hJ); ((have p2 := hat.pre 2 (by kernel_rfl)); (have p14 := hat.pre 14 (by kernel_rfl)); have un := hat.un; simp only [un, p2, p14] at hJ; go_simp; go_at_call 11; refine Calls.mono (HAV2.out w' (β 2) (β 14) (HLB.out w' hJ.1) (hJ.2.1.o1 rfl) (hJ.2.2.1.o1 rfl)) ?_; rintro e w'' ⟨aC, cC, LC, rfl, g1, g2, g3, hb'⟩; refine hK.out _ _ ?_; simp only [updG, setL, Nat.reduceEqDiff, if_true, if_false, p2, p14]; exact ⟨hJ.1.trans (Chg.of_below hb'), hJ.2.1.later hb', hJ.2.2.1.later hb', fun _ => ⟨aC, cC, LC, rfl, g1, g2.mono hJ.1.size, fun y hy => ⟨(g3 y hy).2.2.1, (g3 y hy).2.1, (g3 y hy).2.2.2.mono hJ.1.size⟩⟩⟩))); (try simp only [Act.put, List.setIfInBounds_toArray, List.set_cons_zero, List.set_cons_succ, Nat.reduceAdd]))
        (refine FlowJ.pureG (v := fun β => β 15) (fun β k b hk => updG_ne β b (fun e => by subst e; exact Bool.false_ne_true (hk.symm.trans (by kernel_rfl)))) (fun β b => rfl) (fun _ => rfl) (fun β L' w' hJ hat => by simpa only [setL, Nat.reduceEqDiff, if_false] using hJ) (fun β L' w' hJ hat => by go_simp; (try with_reducible rfl); done) ?_; (try simp only [Act.put, List.setIfInBounds_toArray, List.set_cons_zero, List.set_cons_succ, Nat.reduceAdd]))
        refine FlowJ.stop ?_
        dsimp only
        intro β2 w9 hJ
        obtain ⟨hJ1, hJ2, hJ3, hJ4⟩ := hJ
        obtain ⟨aC, cC, LC, e15, hD1, hD2, hD3⟩ := hJ4 trivial
        obtain ⟨_, _, e2, hD4, hD5, _⟩ := hD2.at
        simp only [Value.slice.injEq, true_and] at e2
        obtain ⟨rfl, rfl⟩ := e2
        rw [e15]
        generalize β2 1 = y1
        generalize β2 2 = y2
        generalize β2 13 = y13
        generalize β2 14 = y14
        have HCM := Lib.hid hD1
        have HCA := Lib.hid hD2
        have HCL := Lib.hid hD3
        have hmC : LC.length = m := by
          have h1 := congrArg List.length hD1
          have h2 := congrArg List.length HRUN.out
          rw [List.length_map, List.length_map] at h1
          rw [List.length_map] at h2
          have := HM.out
          omega
        have HMC := Lib.hid hmC
        rw [hmC] at hD4 ⊢
        have hkB : kk < LB.length := by have := HMB.out; omega
        have hkC : kk < LC.length := by omega
        have hxB1 : LB[kk].1 = R.foldl (fun k r => backH r k) x.1 := by
          have h := congrArg (fun (z : List Hd) => z[kk]?) HBM.out
          simp only [List.getElem?_map, List.getElem?_eq_getElem hkB, HXR.out, Option.map_some, Option.some.injEq] at h
          exact h
        have hxC1 : LC[kk].1 = (R ++ [rr]).foldl (fun k r => backH r k) x.1 := by
          have h := congrArg (fun (z : List Hd) => z[kk]?) HCM.out
          simp only [List.getElem?_map, List.getElem?_eq_getElem hkC, HXR.out, Option.map_some, Option.some.injEq] at h
          exact h
        -- what is kept from the world of the call on
        have hkeep : ∀ g, wr.heap.size ≤ g → g < w8.heap.size → w9.heap[g]? = w8.heap[g]? := fun g h1 h2 => hJ1.block g h2 fun e => by
          rcases e with e | e
          · have := HLO.out.1 g e; omega
          · have := HLO.out.2 g e; omega
        have hOB9 : EH.Own w9 wr.heap.size (.slice aB LB.length cB) LB := HBA.out.block fun g hg => hkeep g (HBA.out.lt g hg).1 (HBA.out.lt g hg).2
        have hRW9 : Below w3.heap.size w3 w9 := HLB.out w9 hJ1
        have hold9 := HB3.out.trans (hRW9.mono HB3.out.size)
        have hmem9 : ∀ (R' : List Rec), (∀ r ∈ R', r.members = []) → ∀ ma mem, (∃ r ∈ l ++ R', ma = r.ma ∧ mem = r.members) → Ints w9 ma mem := by
          rintro R' hR' ma mem ⟨r, hr, rfl, rfl⟩
          rcases List.mem_append.1 hr with hr | hr
          · exact ((HRA.out.later hold9) r hr).2
          · rw [hR' r hr]
            exact fun j hj => absurd hj (by simp)
        have hback9 : ∀ {a : Option Addr} {c : Nat} {w' : World} {B : Nat} {b : List Int}, EI.Own w' B (.slice a b.length c) b → Ints w' a b ∧ b.length < 9223372036854775808 := fun h => by
          obtain ⟨a', c', e', hl1, hl2, hat', _⟩ := h.at
          simp only [Value.slice.injEq, true_and] at e'
          obtain ⟨rfl, rfl⟩ := e'
          exact ⟨hat'.ints, by unfold maxLen at hl2; omega⟩
        obtain ⟨_, _, e2, _, _, hatB, _⟩ := hOB9.at
        simp only [Value.slice.injEq, true_and] at e2
        obtain ⟨rfl, rfl⟩ := e2
        obtain ⟨_, _, e2, _, _, hatC, _⟩ := hD2.at
        simp only [Value.slice.injEq, true_and] at e2
        obtain ⟨rfl, rfl⟩ := e2
        obtain ⟨bb, bo, rfl, _⟩ := hatB.head (by omega)
        obtain ⟨cb, co, rfl, _⟩ := hatC.head (by omega)
        obtain ⟨b0, b1, b2, b3⟩ := hd_cells hatB hkB
        obtain ⟨d0, d1, d2, d3⟩ := hd_cells hatC hkC
        have hy9 : HdAt w9 LB[kk].1 LB[kk].2.1 LB[kk].2.2.2.1 := by
          obtain ⟨h1, h2, h3, h4⟩ := HBL.out _ (List.getElem_mem hkB)
          have h5 := h4.block (w' := w9) (fun g hg => hkeep g (h4.lt g hg).1 (h4.lt g hg).2)
          exact ⟨hmem9 R (fun r hr => (HRK.out r hr).2.2.1) _ _ h3, (hback9 h5).1, h2, (hback9 h5).2⟩
        have hu9 : HdAt w9 LC[kk].1 LC[kk].2.1 LC[kk].2.2.2.1 := by
          obtain ⟨h1, h2, h3⟩ := hD3 _ (List.getElem_mem hkC)
          refine ⟨hmem9 (R ++ [rr]) (fun r hr => ?_) _ _ h1, (hback9 h3).1, h2, (hback9 h3).2⟩
          rcases List.mem_append.1 hr with hr | hr
          · exact (HRK.out r hr).2.2.1
          · rw [List.mem_singleton.1 hr, HRR.out]
            rfl
        have hoY : outB LB[kk].1 = !decide (la ∈ x.1.back) := by
          rw [hxB1]
          exact most_out (fun r hr => (HRK.out r hr).2.1) (List.mem_of_getElem? HLA.out) HRM.out
        have hoU : outB LC[kk].1 = false := by
          rw [hxC1]
          refine full_out (fun r hr => ?_) (fun z hz => ?_)
          · rcases List.mem_append.1 hr with hr | hr
            · exact (HRK.out r hr).2.1
            · rw [List.mem_singleton.1 hr, HRR.out]
              rfl
          · rw [List.map_append, List.mem_append]
            by_cases e : z = la
            · exact .inr (by rw [e, HRR.out]; exact List.mem_singleton.2 rfl)
            · exact .inl ((HRM.out z).2 ⟨hz, e⟩)
        obtain ⟨y, hye⟩ : ∃ y, y = LB[kk] := ⟨_, rfl⟩
        obtain ⟨u, hue⟩ : ∃ u, u = LC[kk] := ⟨_, rfl⟩
        rw [← hye] at b0 b1 b2 b3 hy9 hoY
        rw [← hue] at d0 d1 d2 d3 hu9 hoU
        obtain ⟨d, hd⟩ : ∃ d, d = decide (la ∈ x.1.back) := ⟨_, rfl⟩
        rw [← hd] at hoY
        have HOY := Lib.hid (show ∀ wy, HdAt wy y.1 y.2.1 y.2.2.2.1 → Calls Try.prog 13 #[.agg #[.string y.1.id, .string y.1.veh, .slice y.2.1 y.1.mem.length y.2.2.1, .slice y.2.2.2.1 y.1.back.length y.2.2.2.2]] wy (RetB (.bool (!d)) wy) from fun wy h => by rw [← hoY]; exact out_any y.1 _ _ _ _ wy h)
        have HOU := Lib.hid (show ∀ wy, HdAt wy u.1 u.2.1 u.2.2.2.1 → Calls Try.prog 13 #[.agg #[.string u.1.id, .string u.1.veh, .slice u.2.1 u.1.mem.length u.2.2.1, .slice u.2.2.2.1 u.1.back.length u.2.2.2.2]] wy (RetB (.bool false) wy) from fun wy h => by rw [← hoU]; exact out_any u.1 _ _ _ _ wy h)
        have HIN := Lib.hid (show ∀ wy, Ints wy x.2.2.2.1 x.1.back → Calls Try.prog 18 #[.slice x.2.2.2.1 x.1.back.length x.2.2.2.2, .int .i64 la] wy (RetS (.bool d) wy) from fun wy h => by rw [hd]; exact in_any _ _ _ _ wy h HXH.out.bl)
        obtain ⟨f0, f2, fm, f3⟩ := HFC.out _ hJ1
        have hbi := HXH.out.b.later hRW9
        have em2 : ((m : Int) == (m : Int)) = true := by simp
        have hS : ∀ wy : World, Below w9.heap.size w9 wy → ((wy.cell? ⟨T, 2, none⟩ = some (.slice (some ⟨mb, mo, none⟩) q x.2.2.1) ∧ wy.cell? ⟨T, 3, none⟩ = some (.slice x.2.2.2.1 x.1.back.length x.2.2.2.2) ∧ wy.cell? ⟨mb, mo + i, none⟩ = some (.int .i64 la)) ∧ (wy.cell? ⟨bb, bo + kk * 4, none⟩ = some (.string y.1.id) ∧ wy.cell? ⟨bb, bo + kk * 4 + 1, none⟩ = some (.string y.1.veh) ∧ wy.cell? ⟨bb, bo + kk * 4 + 2, none⟩ = some (.slice y.2.1 y.1.mem.length y.2.2.1) ∧ wy.cell? ⟨bb, bo + kk * 4 + 3, none⟩ = some (.slice y.2.2.2.1 y.1.back.length y.2.2.2.2)) ∧ (wy.cell? ⟨cb, co + kk * 4, none⟩ = some (.string u.1.id) ∧ wy.cell? ⟨cb, co + kk * 4 + 1, none⟩ = some (.string u.1.veh) ∧ wy.cell? ⟨cb, co + kk * 4 + 2, none⟩ = some (.slice u.2.1 u.1.mem.length u.2.2.1) ∧ wy.cell? ⟨cb, co + kk * 4 + 3, none⟩ = some (.slice u.2.2.2.1 u.1.back.length u.2.2.2.2))) ∧ HdAt wy y.1 y.2.1 y.2.2.2.1 ∧ HdAt wy u.1 u.2.1 u.2.2.2.1 ∧ Ints wy x.2.2.2.1 x.1.back := fun wy hy => ⟨⟨⟨cell_later hy f2, cell_later hy f3, cell_later hy fm⟩, ⟨cell_later hy b0, cell_later hy b1, cell_later hy b2, cell_later hy b3⟩, cell_later hy d0, cell_later hy d1, cell_later hy d2, cell_later hy d3⟩, hy9.later hy, hu9.later hy, hbi.later hy⟩
        have HB9 := Lib.hid hold9
        clear hkeep hOB9 hRW9 hold9 hmem9 hback9 hatB hatC hy9 hu9 hoY hoU hye hue hd hbi hxB1 hxC1 hJ1 hJ2 hJ3 hJ4 e15 hD1 hD2 hD3 hfold
        cases d <;> (
          go_wp2_with fail
          refine wp_flow_s [] [] (by kernel_rfl) (by kernel_rfl) (by kernel_rfl) ?_
          repeat (first | ((with_reducible refine Flow.pure hS StayG.nil (v := ?_) ?_ ?_ ?_ ?_); rotate_left 1; (focus kernel_rfl); (focus (intro _; rfl)); (focus (intro β wx hSw; (try dsimp only at hSw); go_simp; (try with_reducible rfl); done)); (try simp only [Act.put, List.setIfInBounds_toArray, List.set_cons_zero, List.set_cons_succ, Nat.reduceAdd])) | ((with_reducible refine Flow.skip StayG.nil ?_ ?_ ?_); (focus kernel_rfl); (focus (intro _; rfl)); (try simp only [Act.put, List.setIfInBounds_toArray, List.set_cons_zero, List.set_cons_succ, Nat.reduceAdd])))
          ((with_reducible refine Flow.call hS StayG.nil (v := ?_) ?_ ?_ ?_ ?_); rotate_left 1; (focus kernel_rfl); (focus (intro _; rfl)); (focus (intro β L wx hI hat hSw K' hK; (try dsimp only at hSw); go_simp; go_at_call 13; refine Calls.mono (HOY.out _ hSw.2.1) ?_; rintro e w' ⟨rfl, hb'⟩; exact hK.out _ hb')); (try simp only [Act.put, List.setIfInBounds_toArray, List.set_cons_zero, List.set_cons_succ, Nat.reduceAdd]))
          repeat (first | ((with_reducible refine Flow.pure hS StayG.nil (v := ?_) ?_ ?_ ?_ ?_); rotate_left 1; (focus kernel_rfl); (focus (intro _; rfl)); (focus (intro β wx hSw; (try dsimp only at hSw); go_simp; (try with_reducible rfl); done)); (try simp only [Act.put, List.setIfInBounds_toArray, List.set_cons_zero, List.set_cons_succ, Nat.reduceAdd])) | ((with_reducible refine Flow.skip StayG.nil ?_ ?_ ?_); (focus kernel_rfl); (focus (intro _; rfl)); (try simp only [Act.put, List.setIfInBounds_toArray, List.set_cons_zero, List.set_cons_succ, Nat.reduceAdd])))
          ((with_reducible refine Flow.call hS StayG.nil (v := ?_) ?_ ?_ ?_ ?_); rotate_left 1; (focus kernel_rfl); (focus (intro _; rfl)); (focus (intro β L wx hI hat hSw K' hK; (try dsimp only at hSw); go_simp; go_at_call 18; refine Calls.mono (HIN.out _ hSw.2.2.2) ?_; rintro e w' ⟨rfl, rfl⟩; exact hK.out _ (Below.refl _ _))); (try simp only [Act.put, List.setIfInBounds_toArray, List.set_cons_zero, List.set_cons_succ, Nat.reduceAdd]))
          repeat (first | ((with_reducible refine Flow.pure hS StayG.nil (v := ?_) ?_ ?_ ?_ ?_); rotate_left 1; (focus kernel_rfl); (focus (intro _; rfl)); (focus (intro β wx hSw; (try dsimp only at hSw); go_simp; (try with_reducible rfl); done)); (try simp only [Act.put, List.setIfInBounds_toArray, List.set_cons_zero, List.set_cons_succ, Nat.reduceAdd])) | ((with_reducible refine Flow.skip StayG.nil ?_ ?_ ?_); (focus kernel_rfl); (focus (intro _; rfl)); (try simp only [Act.put, List.setIfInBounds_toArray, List.set_cons_zero, List.set_cons_succ, Nat.reduceAdd])))
          ((with_reducible refine Flow.call hS StayG.nil (v := ?_) ?_ ?_ ?_ ?_); rotate_left 1; (focus kernel_rfl); (focus (intro _; rfl)); (focus (intro β L wx hI hat hSw K' hK; (try dsimp only at hSw); go_simp; go_at_call 13; refine Calls.mono (HOU.out _ hSw.2.2.1) ?_; rintro e w' ⟨rfl, hb'⟩; exact hK.out _ hb')); (try simp only [Act.put, List.setIfInBounds_toArray, List.set_cons_zero, List.set_cons_succ, Nat.reduceAdd]))
          repeat (first | ((with_reducible refine Flow.pure hS StayG.nil (v := ?_) ?_ ?_ ?_ ?_); rotate_left 1; (focus kernel_rfl); (focus (intro _; rfl)); (focus (intro β wx hSw; (try dsimp only at hSw); go_simp; (try with_reducible rfl); done)); (try simp only [Act.put, List.setIfInBounds_toArray, List.set_cons_zero, List.set_cons_succ, Nat.reduceAdd])) | ((with_reducible refine Flow.skip StayG.nil ?_ ?_ ?_); (focus kernel_rfl); (focus (intro _; rfl)); (try simp only [Act.put, List.setIfInBounds_toArray, List.set_cons_zero, List.set_cons_succ, Nat.reduceAdd])))
          ((with_reducible refine Flow.stop ?_); dsimp only; intro β9 w10 hI9)
          have HBW := Lib.hid (HB9.out.trans (hI9.below.mono HB9.out.size))
          clear hS hI9 f0 f2 f3 fm b0 b1 b2 b3 d0 d1 d2 d3
          go_wp2_with fail
          go_ret
          exact retB rfl HBW.out)
theorem walk (W : World) (ia : Option Addr) (ic : Nat) (i : List ByteArray) (iV : ES.At W ia i) (ra : Option Addr) (rc : Nat) (r : List Rec) (rR : ER.At W ra r) (rA : RecAll W r) (k : Int) (ko : 0 ≤ k ∧ k < 256) :
    Calls Try.prog 5 #[.slice ia i.length ic, .slice ra r.length rc, .int .u8 k] W (RetB (.bool true) W) := by
  by_cases h : FewR i r 30
  · by_cases h2 : i.length = r.length
    · exact yes i r ia ra ic rc k ko.1 ko.2 W iV rR rA h h2
    · exact no i r ia ra ic rc k W iV rR rA (.inr ⟨h, h2⟩)
  · exact no i r ia ra ic rc k W iV rR rA (.inl h)
end HoldEverybody
namespace HoldEverybody
set_option maxRecDepth 100000 in
theorem entry (H : Type) (enc : TypeId × Value → H) (W : World) (base : Nat) (args : Array Value) (ds : List (DataW H)) (p : List MemPlace)
    (hval : ∀ (j : Nat) t v, Try.f5.params[j]? = some t → args[j]? = some v → Value.okWide Try.prog W .any base t v)
    (hA : DataW.TrodAll enc Try.prog W 0 (fun _ => true) true Try.f5.params.toList args.toList ds p) :
    Calls Try.prog 5 args W (RetB (.bool true) W) := by
  rw [Try.params5] at hA hval
  obtain ⟨v0, vs0, d0, ds0, p0, q0, hargs, rfl, rfl, h0, r0⟩ := trodAll_cons hA
  obtain ⟨v1, vs1, d1, ds1, p1, q1, rfl, rfl, rfl, h1, r1⟩ := trodAll_cons r0
  obtain ⟨v2, vs2, d2, ds2, p2, q2, rfl, rfl, rfl, h2, r2⟩ := trodAll_cons r1
  obtain ⟨rfl, rfl, rfl⟩ := trodAll_nil r2
  obtain rfl : args = #[v0, v1, v2] := by cases args; simp_all
  obtain ⟨ia, ic, i, rfl, iV⟩ := open_strs (hval 0 22 v0 rfl rfl) h0
  obtain ⟨ra, rc, r, rfl, rR, rA⟩ := open_recs (hval 1 23 v1 rfl rfl) h1
  obtain ⟨k, rfl, ko⟩ := open_u8 (hval 2 5 v2 rfl rfl) h2
  exact walk W ia ic i iV ra rc r rR rA k ko
end HoldEverybody
/-! The step from the walk to the row of HoldEverybody. -/
namespace HoldEverybody
set_option maxRecDepth 100000 in
theorem lifted (os : Os) (started : os.Started) (H : Type) (enc : TypeId × Value → H) :
    ReturnsInHanded {} Try.checked os 5 .any (Rows.holdEverybodySpec.pre6 enc Try.prog Try.f5 Rows.holdEverybodyRow.domain false) (Rows.holdEverybodySpec.post enc Try.prog Try.f5 false true false false) := by
  refine returnsInHanded_of_change (C := Try.checked) own started (by kernel_rfl) Try.func5
    (ChangeSpec.witness6 (enc := enc) (C := Try.checked) false ⟨#[], #[.slice none 0 0, .slice none 0 0, .int .u8 0], []⟩ 8 (by kernel_rfl) (by kernel_rfl) (by kernel_rfl) (by kernel_rfl)) ?_
  intro W base args ds gs before hval0 hW hcnd _
  have hval : ∀ (j : Nat) t v, Try.f5.params[j]? = some t → args[j]? = some v → Value.okWide Try.prog W .any base t v := hval0
  have hW' := hW
  obtain ⟨p, q, hA0, hV, rfl, hfz, hnd⟩ := hW
  have hA : DataW.TrodAll enc Try.prog W 0 (fun _ => true) true Try.f5.params.toList args.toList ds p := hA0
  obtain ⟨rfl, rfl⟩ := trodVars_none hV
  have hlen := trodAll_len _ _ _ _ hA
  obtain ⟨d0, d1, d2, rfl⟩ : ∃ d0 d1 d2, ds = [d0, d1, d2] := by
    rw [Try.params5] at hlen
    exact list3 hlen
  refine (entry H enc W base args [d0, d1, d2] p hval hA).mono fun e W' ⟨he, bel⟩ => ?_
  subst he
  exact ⟨_, rfl, _, _, _, [], _, [], hW', trodAll_mk1 (shut_bool Try.underlying4 _), readback laidOut _ _ _ _ (by rw [Try.params5]; exact of_decide_eq_true (by kernel_rfl)) hA bel, rfl, bel.frame _, fun h => by cases h⟩

theorem over : Rows.holdEverybodyRow.holds Try.pinned (OpenSpec.ofChange Rows.holdEverybodySpec) :=
  OpenClaim.holds_of_wide 5 Try.f5 rfl rfl rfl rfl rfl rfl rfl ⟨rfl, rfl, rfl, rfl, rfl⟩ rfl rfl rfl rfl rfl (by kernel_rfl) Try.func5 (by kernel_rfl)
    (of_decide_eq_true (by kernel_rfl)) (by unfold Func.isWrapper; first | (rw [if_pos (by decide +kernel)]; kernel_rfl) | (rw [if_neg (by decide +kernel)]; exact ⟨rfl, rfl⟩))
    (fun os started H enc _ => lifted os started H enc)

/-- THE STATEMENT -/
theorem proved : Rows.HoldEverybodySaid := over
end HoldEverybody
#print axioms HoldEverybody.proved
end Go.Proofs.Ytgoomcnaemfjcaa
