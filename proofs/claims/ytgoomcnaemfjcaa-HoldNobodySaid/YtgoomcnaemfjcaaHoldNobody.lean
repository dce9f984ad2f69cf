


/- HoldNobody: for all Ids, records and member, without the records of the member that give back, each hold that has the member is out, and all others are as before: the call of the law returns true, for every input. -/
import Derived.Test.YtgoomcnaemfjcaaHldI
namespace Go.Proofs.Ytgoomcnaemfjcaa
open Go.ChangeShapes Go.WideShapes Go.ChangeAt Go.RowKit Go.Joins

namespace HoldNobody
/-- what is kept -/
def tst (m : Int) (x : ByteArray × Rec) : Bool := !(decide (x.2.kind = 6) && decide (x.2.author = m))
structure Rl (m : Int) (h k : Hd) : Prop where
  id : h.id = k.id
  veh : h.veh = k.veh
  mem : h.mem = k.mem
  no : m ∉ k.back
  same : m ∉ h.mem → h.back = k.back
structure Rls (m : Int) (hs ks : List Hd) : Prop where
  len : hs.length = ks.length
  at_ : ∀ i (h1 : i < hs.length) (h2 : i < ks.length), Rl m hs[i] ks[i]
theorem Rls.ids {m : Int} {hs ks : List Hd} (h : Rls m hs ks) (s : ByteArray) : (∀ k ∈ hs, k.id ≠ s) ↔ ∀ k ∈ ks, k.id ≠ s := by
  constructor
  · intro h1 k hk
    obtain ⟨i, hi, rfl⟩ := List.getElem_of_mem hk
    rw [← (h.at_ i (by have := h.len; omega) hi).id]
    exact h1 _ (List.getElem_mem _)
  · intro h1 k hk
    obtain ⟨i, hi, rfl⟩ := List.getElem_of_mem hk
    rw [(h.at_ i hi (by have := h.len; omega)).id]
    exact h1 _ (List.getElem_mem _)
theorem Rl.back {m : Int} {h k : Hd} {r : Rec} (hr : Rl m h k) (ha : r.author ≠ m) : Rl m (backH r h) (backH r k) := by
  have hk : m ∉ (backH r k).back := by
    unfold backH
    split
    · intro e
      rcases List.mem_append.1 e with e | e
      · exact hr.no e
      · simp at e; exact ha e.symm
    · exact hr.no
  refine ⟨by rw [backH_id, backH_id, hr.id], by rw [backH_veh, backH_veh, hr.veh], by rw [backH_mem, backH_mem, hr.mem], hk, fun hm => ?_⟩
  rw [backH_mem] at hm
  have e := hr.same hm
  unfold backH
  rw [hr.id, hr.mem, e]
  split
  · simp
  · exact e
theorem Rl.drop {m : Int} {h k : Hd} {r : Rec} (hr : Rl m h k) (ha : r.author = m) : Rl m (backH r h) k := by
  refine ⟨by rw [backH_id, hr.id], by rw [backH_veh, hr.veh], by rw [backH_mem, hr.mem], hr.no, fun hm => ?_⟩
  rw [backH_mem] at hm
  unfold backH
  rw [if_neg (fun e => hm (by rw [← ha]; exact e.2.1))]
  exact hr.same hm
theorem Rls.step {m : Int} {hs ks : List Hd} (h : Rls m hs ks) (x : ByteArray × Rec) : Rls m (stepH hs x) (if tst m x then stepH ks x else ks) := by
  obtain ⟨s, r⟩ := x
  by_cases h6 : r.kind = 6
  · have e := step_back (hs := hs) (s := s) h6
    rw [e]
    by_cases ha : r.author = m
    · rw [if_neg (by simp [tst, h6, ha])]
      exact ⟨by simpa using h.len, fun i h1 h2 => by
        simp only [List.getElem_map]
        exact (h.at_ i (by simpa using h1) h2).drop ha⟩
    · rw [if_pos (by simp [tst, ha]), step_back (hs := ks) (s := s) h6]
      exact ⟨by simpa using h.len, fun i h1 h2 => by
        simp only [List.getElem_map]
        exact (h.at_ i (by simpa using h1) (by simpa using h2)).back ha⟩
  · rw [if_pos (by simp [tst, h6])]
    by_cases h5 : r.kind = 5
    · by_cases hc : r.members ≠ [] ∧ ∀ k ∈ hs, k.id ≠ s
      · rw [step_new h5 hc.1 hc.2, step_new h5 hc.1 ((h.ids s).1 hc.2)]
        have hl := h.len
        refine ⟨by simp [hl], fun i h1 h2 => ?_⟩
        by_cases hi : i < hs.length
        · rw [List.getElem_append_left hi, List.getElem_append_left (by omega)]
          exact h.at_ i hi (by omega)
        · simp only [List.length_append, List.length_cons, List.length_nil] at h1
          obtain rfl : i = hs.length := by omega
          rw [List.getElem_append_right (Nat.le_refl _), List.getElem_append_right (by omega)]
          simp only [Nat.sub_self, List.getElem_cons_zero, hl]
          exact ⟨rfl, rfl, rfl, by simp, fun _ => rfl⟩
      · have e1 : ∀ l : List Hd, ¬ (r.members ≠ [] ∧ ∀ k ∈ l, k.id ≠ s) → stepH l (s, r) = l := fun l hl => by
          unfold stepH
          rw [if_pos h5, if_neg hl]
        rw [e1 hs hc, e1 ks (fun e => hc ⟨e.1, (h.ids s).2 e.2⟩)]
        exact h
    · rw [step_no h5 h6, step_no h5 h6]
      exact h
theorem run_rel (m : Int) (z : List (ByteArray × Rec)) : Rls m (runH z) (runH (z.filter (tst m))) := by
  have : ∀ (z : List (ByteArray × Rec)) hs ks, Rls m hs ks → Rls m (z.foldl stepH hs) ((z.filter (tst m)).foldl stepH ks) := fun z => by
    induction z with
    | nil => exact fun _ _ h => h
    | cons x z ih =>
      intro hs ks h
      have := h.step x
      by_cases ht : tst m x = true
      · rw [if_pos ht] at this
        rw [List.filter_cons_of_pos ht, List.foldl_cons, List.foldl_cons]
        exact ih _ _ this
      · rw [if_neg ht] at this
        rw [List.filter_cons_of_neg ht, List.foldl_cons]
        exact ih _ _ this
  exact this z [] [] ⟨rfl, fun i h1 => absurd h1 (by simp)⟩
set_option maxRecDepth 100000 in
set_option maxHeartbeats 4000000 in
theorem no (ids : List ByteArray) (l : List Rec) (ia ra : Option Addr) (ic rc : Nat) (mb : Int) (w : World) (hI : ES.At w ia ids) (hR : ER.At w ra l) (hA : RecAll w l) (hno : ¬ FewR ids l 30 ∨ (FewR ids l 30 ∧ ids.length ≠ l.length)) :
    Calls Try.prog 8 #[.slice ia ids.length ic, .slice ra l.length rc, .int .i64 mb] w (RetB (.bool true) w) := by
  have HI := Lib.hid hI
  have HR := Lib.hid hR
  have HRA := Lib.hid hA
  clear hI hR hA
  rcases hno with h | ⟨h, hne⟩
  · have HF := Lib.hid (fewRB_no h)
    clear h
    go_enter Try.func8, Try.ntmps8
    go_wp2_with fail
    refine Calls.mono (head_any _) ?_
    rintro e w1 ⟨rfl, hb1⟩
    have HB1 := Lib.hid hb1
    clear hb1
    go_wp2_with fail
    have hf := few_any ids l ia ra ic rc w1 (HI.out.later HB1.out) (HR.out.later HB1.out) (HRA.out.later HB1.out)
    rw [HF.out] at hf
    refine Calls.mono hf ?_
    rintro e w2 ⟨rfl, rfl⟩
    clear hf
    go_wp2_with fail
    go_ret
    exact retB rfl HB1.out
  · have HF := Lib.hid (fewRB_yes h)
    have d1 : (ids.length == l.length) = false := by simpa using hne
    have d2 : ((ids.length : Int) == (l.length : Int)) = false := by simp; omega
    clear h hne
    go_enter Try.func8, Try.ntmps8
    go_wp2_with fail
    refine Calls.mono (head_any _) ?_
    rintro e w1 ⟨rfl, hb1⟩
    have HB1 := Lib.hid hb1
    clear hb1
    go_wp2_with fail
    have hf := few_any ids l ia ra ic rc w1 (HI.out.later HB1.out) (HR.out.later HB1.out) (HRA.out.later HB1.out)
    rw [HF.out] at hf
    refine Calls.mono hf ?_
    rintro e w2 ⟨rfl, rfl⟩
    clear hf
    go_wp2_with fail
    go_ret
    exact retB rfl HB1.out
set_option maxRecDepth 100000 in
set_option maxHeartbeats 4000000 in
theorem yes (ids : List ByteArray) (l : List Rec) (ia ra : Option Addr) (ic rc : Nat) (mb : Int) (w : World) (hI : ES.At w ia ids) (hR : ER.At w ra l) (hA : RecAll w l) (hf0 : FewR ids l 30) (hlen : ids.length = l.length) :
    Calls Try.prog 8 #[.slice ia ids.length ic, .slice ra l.length rc, .int .i64 mb] w (RetB (.bool true) w) := by
  have HI := Lib.hid hI
  have HR := Lib.hid hR
  have HRA := Lib.hid hA
  have HFE := Lib.hid hf0
  have HF := Lib.hid (fewRB_yes hf0)
  have HLEN := Lib.hid hlen
  have hl30 := hf0.1
  obtain ⟨n, hn⟩ : ∃ n, n = l.length := ⟨_, rfl⟩
  have HN := Lib.hid hn
  have HFEW := Lib.hid (show ∀ wy, ES.At wy ia ids → ER.At wy ra l → RecAll wy l → Calls Try.prog 10 #[.slice ia n ic, .slice ra n rc] wy (RetS (.bool true) wy) from fun wy h1 h2 h3 => by
    have h := few_any ids l ia ra ic rc wy h1 h2 h3
    rw [HF.out, hlen, ← hn] at h
    exact h)
  rw [hlen, ← hn]
  rw [← hn] at hl30
  have e0 : ((n : Int) == (n : Int)) = true := by simp
  clear hI hR hA hf0 hlen hn
  go_enter Try.func8, Try.ntmps8
  go_wp2_with fail
  refine Calls.mono (head_any _) ?_
  rintro e w1 ⟨rfl, hb1⟩
  have HB1 := Lib.hid hb1
  clear hb1
  go_wp2_with fail
  refine Calls.mono (HFEW.out w1 (HI.out.later HB1.out) (HR.out.later HB1.out) (HRA.out.later HB1.out)) ?_
  rintro e w2 ⟨rfl, rfl⟩
  go_wp2_with fail
  obtain ⟨z, hz⟩ : ∃ z, z = ids.zip l := ⟨_, rfl⟩
  have hzl : z.length = n := by rw [hz, List.length_zip]; have := HLEN.out; have := HN.out; omega
  have HZ := Lib.hid hz
  have HZL := Lib.hid hzl
  clear hz hzl
  go_loopg [8, 9, 10] (n + 1) (fun k v6 v7 v9 wr => ∃ j : Nat, j ≤ n ∧ k + j = n + 1 ∧ v9 = .int .i64 j ∧ Below w1.heap.size w1 wr ∧ ER.Own wr w1.heap.size v6 (((z.take j).filter (tst mb)).map (·.2)) ∧ ES.Own wr w1.heap.size v7 (((z.take j).filter (tst mb)).map (·.1)))
  case atStart => exact ⟨0, by omega, by omega, rfl, Below.refl _ _, El.Own.nil _ _ _, El.Own.nil _ _ _⟩
  case round =>
        obtain ⟨j, hj, hkj, rfl, hbj, ho1, ho2⟩ := hrel
        have HBJ := Lib.hid hbj
        by_cases hlt : j < n
        · have hjL : j < l.length := by have := HN.out; omega
          have hjI : j < ids.length := by have := HN.out; have := HLEN.out; omega
          have hjz : j < z.length := by have := HZL.out; omega
          have hIr := (HI.out.later HB1.out).later hbj
          have hRr := (HR.out.later HB1.out).later hbj
          have hAr := (HRA.out.later HB1.out).later hbj
          obtain ⟨ib, io, rfl, _⟩ := hIr.head (by omega)
          obtain ⟨rb, ro, rfl, _⟩ := hRr.head (by omega)
          have hsc := str_cell hIr hjI
          have hrg := hRr.range hjL
          rw [show ER.S = 36 from rfl] at hrg
          obtain ⟨k0, k1, _, _, _⟩ := rc_cells hRr hAr hjL
          have hzj : z[j] = (ids[j], l[j]) := by simp [HZ.out]
          have htk : ∀ t : ByteArray × Rec → Bool, (z.take (j + 1)).filter t = (z.take j).filter t ++ if t (ids[j], l[j]) then [(ids[j], l[j])] else [] := fun t => by
            rw [List.take_succ_eq_append_getElem hjz, List.filter_append, hzj]
            by_cases h : t (ids[j], l[j]) <;> simp [h]
          obtain ⟨r, hr⟩ : ∃ r, r = l[j] := ⟨_, rfl⟩
          obtain ⟨s, hs⟩ : ∃ s, s = ids[j] := ⟨_, rfl⟩
          rw [← hr] at hrg k0 k1 htk
          rw [← hs] at hsc htk
          change wr.rangeAt rb (ro + j * 36) r.cs at hrg
          have HTK := Lib.hid htk
          have HRG := Lib.hid hrg
          have n1 : (j : Int) < (n : Int) := by omega
          have n0 : (0 : Int) ≤ (j : Int) := by omega
          obtain ⟨Z, hZ⟩ : ∃ Z, Z = (z.take j).filter (tst mb) := ⟨_, rfl⟩
          rw [← hZ] at ho1 ho2
          have HZE := Lib.hid hZ
          have hZl : Z.length ≤ 200 := by
            have h1 := List.length_filter_le (tst mb) (z.take j)
            rw [List.length_take] at h1
            rw [hZ]
            omega
          have HO1 := Lib.hid ho1
          have HO2 := Lib.hid ho2
          clear hr hs hzj htk hIr hRr hAr hrg hZ
          have hbA : Below wr.heap.size wr (wr.alloc (.cells r.cs.toArray 54)) := (by repeat (first | exact Below.refl _ _ | assumption | refine Below.drew ?_ | refine below_drewN ?_ _ | refine Below.alloc ?_ (by first | omega | (simp; done) | (simp; omega)) _ | refine Below.setCell ?_ (by first | omega | (simp; done) | (simp; omega)) _ | refine Below.trans ?_ (Below.mono (by assumption) (by first | omega | (simp; done) | (simp; omega)))))
          obtain ⟨va, w3, hr3, ho3, hg3, hn3⟩ := El.app (E := ER) (wr.alloc (.cells r.cs.toArray 54)) w1.heap.size _ _ [r] (ho1.later hbA) (some ⟨wr.heap.size, 0, none⟩) 1 (El.at_lit ER wr [r] r.cs.toArray 54 (by simp [ER])) (by simp; omega) (by have := hbj.size; simp; omega) 23
          have ho2A := ho2.later hbA
          have hlt3 : ∀ g, u8.ownBlock = some g → w1.heap.size ≤ g := fun g hg => (ho1.lt g hg).1
          have hszj := hbj.size
          have hb3 : Below w1.heap.size w1 w3 := (hbj.trans (hbA.mono hbj.size)).grown hg3 (by simp; omega) hlt3
          have ho4 : ES.Own w3 w1.heap.size u9 (Z.map (·.1)) := ho2A.block fun g hg => hg3.block g (ho2A.lt g hg).2 fun e => by
            exact absurd rfl ((ho2A.ty hg).ne ((ho1.later hbA).ty e.symm) (by decide))
          have hbB : Below w3.heap.size w3 (w3.alloc (.cells #[.string s] 9)) := (by repeat (first | exact Below.refl _ _ | assumption | refine Below.drew ?_ | refine below_drewN ?_ _ | refine Below.alloc ?_ (by first | omega | (simp; done) | (simp; omega)) _ | refine Below.setCell ?_ (by first | omega | (simp; done) | (simp; omega)) _ | refine Below.trans ?_ (Below.mono (by assumption) (by first | omega | (simp; done) | (simp; omega)))))
          obtain ⟨vb, w5, hr5, ho5, hg5, hn5⟩ := El.app (E := ES) (w3.alloc (.cells #[.string s] 9)) w1.heap.size _ _ [s] (ho4.later hbB) (some ⟨w3.heap.size, 0, none⟩) 1 (El.at_lit ES w3 [s] #[.string s] 9 rfl) (by simp; omega) (by have := hb3.size; simp; omega) 22
          have hlt5 : ∀ g, u9.ownBlock = some g → w1.heap.size ≤ g := fun g hg => (ho4.lt g hg).1
          have hb5 : Below w1.heap.size w1 w5 := (hb3.trans (hbB.mono hb3.size)).grown hg5 (by have := hb3.size; simp; omega) hlt5
          have ho3B := ho3.later hbB
          have ho6 : ER.Own w5 w1.heap.size va (Z.map (·.2) ++ [r]) := ho3B.block fun g hg => hg5.block g (ho3B.lt g hg).2 fun e => by
            exact absurd rfl ((ho3B.ty hg).ne ((ho4.later hbB).ty e.symm) (by decide))
          have HR3 := Lib.hid hr3
          have HR5 := Lib.hid hr5
          have HO5 := Lib.hid ho5
          have HO6 := Lib.hid ho6
          have HB5 := Lib.hid hb5
          have hs3 := hb3.size
          have lib : ib < wr.heap.size := World.block_lt_of_cell? _ _ hsc
          have hsc3 : w3.cell? ⟨ib, io + j, none⟩ = some (.string s) := by
            have h1 := cell_later hbA hsc
            rw [World.cell?_of_block (w := wr.alloc (.cells r.cs.toArray 54)) (hg3.block ib (by simp; omega) fun e => by
              have h2 := (ho1.lt ib e.symm).1
              have h3 : ib < w1.heap.size := World.block_lt_of_cell? _ _ (str_cell (HI.out.later HB1.out) hjI)
              omega)]
            exact h1
          clear hr3 hr5 ho5 ho6 hb5 ho1 ho2 ho2A ho3 ho4 hbA hbB hg3 hg5 hn3 hn5 ho3B hb3
          have hfold := fold_rec r
          have HT6 := Lib.hid (show tst mb (s, r) = !(decide (r.kind = 6) && decide (r.author = mb)) from rfl)
          have hcl := r.hl
          cases hk6 : (r.kind == (6 : Int))
          · have HTT := Lib.hid (show tst mb (s, r) = true from by rw [HT6.out, show decide (r.kind = 6) = false from by simpa using hk6]; rfl)
            have hk7 : ¬ r.kind = 6 := by simpa using hk6
            clear hbj
            go_wp2_with (first | (refine wpList_load_mid rfl 54 _ rfl rb (ro + j * 36) rfl r.cs _ HRG.out Try.underlying54 rfl (rec_size r) ?_) | (at_builtin; first | (refine wpList_app_eq rfl _ _ _ rfl _ _ rfl rfl HR3.out ?_) | (refine wpList_app_eq rfl _ _ _ rfl _ _ rfl rfl HR5.out ?_)))
            go_roundg (n - j)
            case measure => omega
            case rel => exact ⟨j + 1, by omega, by omega, by go_num, HB5.out, by rw [HTK.out, if_pos HTT.out, ← HZE.out, List.map_append]; exact HO6.out, by rw [HTK.out, if_pos HTT.out, ← HZE.out, List.map_append]; exact HO5.out⟩
          · cases hka : (r.author == mb)
            · have HTT := Lib.hid (show tst mb (s, r) = true from by rw [HT6.out, show decide (r.author = mb) = false from by simpa using hka]; simp)
              have hk7 : r.kind = 6 := by simpa using hk6
              have hka2 : ¬ r.author = mb := by simpa using hka
              rw [hk7] at k0
              clear hbj hk7 hk6
              go_wp2_with (first | (refine wpList_load_mid rfl 54 _ rfl rb (ro + j * 36) rfl r.cs _ HRG.out Try.underlying54 rfl (rec_size r) ?_) | (at_builtin; first | (refine wpList_app_eq rfl _ _ _ rfl _ _ rfl rfl HR3.out ?_) | (refine wpList_app_eq rfl _ _ _ rfl _ _ rfl rfl HR5.out ?_)))
              go_roundg (n - j)
              case measure => omega
              case rel => exact ⟨j + 1, by omega, by omega, by go_num, HB5.out, by rw [HTK.out, if_pos HTT.out, ← HZE.out, List.map_append]; exact HO6.out, by rw [HTK.out, if_pos HTT.out, ← HZE.out, List.map_append]; exact HO5.out⟩
            · have HTT := Lib.hid (show ¬ tst mb (s, r) = true from by rw [HT6.out, show decide (r.kind = 6) = true from by simpa using hk6, show decide (r.author = mb) = true from by simpa using hka]; simp)
              have hk7 : r.kind = 6 := by simpa using hk6
              have hka2 : r.author = mb := by simpa using hka
              rw [hk7] at k0
              rw [hka2] at k1
              clear hbj hsc3 hfold hk7 hk6 hka hka2
              go_wp2_with fail
              go_roundg (n - j)
              case measure => omega
              case rel => exact ⟨j + 1, by omega, by omega, by go_num, HBJ.out, by rw [HTK.out, if_neg HTT.out, List.append_nil, ← HZE.out]; exact HO1.out, by rw [HTK.out, if_neg HTT.out, List.append_nil, ← HZE.out]; exact HO2.out⟩
        · obtain rfl : j = n := by omega
          obtain ⟨Z, hZ⟩ : ∃ Z, Z = z.filter (tst mb) := ⟨_, rfl⟩
          rw [List.take_of_length_le (by rw [HZL.out]; exact Nat.le_refl _), ← hZ] at ho1 ho2
          obtain ⟨an, cn, e7, _, _, hatN, _⟩ := ho2.at
          obtain ⟨aa, ca, e6, _, _, hatR, _⟩ := ho1.at
          rw [List.length_map] at e6 e7
          have hzip : (Z.map (·.1)).zip (Z.map (·.2)) = Z := by
            rw [List.zip_map', List.map_id']
          have hmemZ : ∀ x ∈ Z, x ∈ z := fun x hx => by
            rw [hZ] at hx
            exact (List.mem_filter.1 hx).1
          have hmem1 : ∀ s ∈ Z.map (·.1), s ∈ ids := fun s hs => by
            obtain ⟨x, hx, rfl⟩ := List.mem_map.1 hs
            have := hmemZ x hx
            rw [HZ.out] at this
            exact (List.of_mem_zip this).1
          have hmem2 : ∀ r ∈ Z.map (·.2), r ∈ l := fun r hr => by
            obtain ⟨x, hx, rfl⟩ := List.mem_map.1 hr
            have := hmemZ x hx
            rw [HZ.out] at this
            exact (List.of_mem_zip this).2
          have hZl : Z.length ≤ j := by
            rw [hZ]
            have := List.length_filter_le (tst mb) z
            rw [HZL.out] at this
            exact this
          have HWR := Lib.hid (HB1.out.trans (hbj.mono HB1.out.size))
          have A1 := all_any ids l ia ra ic rc wr (HI.out.later HWR.out) (HR.out.later HWR.out) (HRA.out.later HWR.out) (HFE.out.few (by omega))
          rw [HLEN.out, ← HN.out] at A1
          have HA1 := Lib.hid A1
          have HA2 := Lib.hid (show ∀ wy, Below wr.heap.size wr wy → Calls Try.prog 11 #[.slice an Z.length cn, .slice aa Z.length ca] wy (RetH wy (runH Z)) from fun wy hy => by
            have hraw := HRA.out.later (HWR.out.trans (hy.mono HWR.out.size))
            have A2 := all_any (Z.map (·.1)) (Z.map (·.2)) an aa cn ca wy (hatN.later hy) (hatR.later hy) (fun r hr => hraw r (hmem2 r hr)) ⟨by rw [List.length_map]; omega, fun s hs => by have := HFE.out.2.2.2 s (hmem1 s hs); omega, fun r hr => by have := (HFE.out.2.2.1 r (hmem2 r hr)).2.2; omega⟩
            have hall : allH (Z.map (·.1)) (Z.map (·.2)) = runH Z := by
              unfold allH
              rw [if_pos (by simp), hzip]
            rw [hall, List.length_map, List.length_map] at A2
            exact A2)
          have HZE := Lib.hid hZ
          clear A1 hzip hmemZ hmem1 hmem2 hatN hatR hZ ho1 ho2 hbj hZl
          subst e6 e7
          go_wp2_with fail
          refine Calls.mono HA1.out ?_
          rintro e w3 ⟨aA, cA, LA, rfl, hA1, hA2, hA3, hA4, hA5, _, hb3⟩
          have HAA := Lib.hid hA2
          have HAL := Lib.hid hA3
          have HB3 := Lib.hid hb3
          obtain ⟨m, hm⟩ : ∃ m, m = LA.length := ⟨_, rfl⟩
          have HM := Lib.hid hm
          rw [← hm] at hA4 ⊢
          have HRA1 := Lib.hid hA1
          clear hA1 hA2 hA3 hb3 hm HA1
          go_wp2_with fail
          refine Calls.mono (HA2.out w3 HB3.out) ?_
          rintro e w4 ⟨aB, cB, LB, rfl, hC1, hC2, hC3, hC4, hC5, _, hb4⟩
          have hrl := run_rel mb z
          rw [← HZE.out, ← hC1, HZ.out, ← show allH ids l = runH (ids.zip l) from if_pos HLEN.out, ← HRA1.out] at hrl
          have HRL := Lib.hid hrl
          have hmB : LB.length = m := by
            have := hrl.len
            simp only [List.length_map] at this
            have := HM.out
            omega
          have HMB := Lib.hid hmB
          rw [hmB] at hC4 ⊢
          have HBB := Lib.hid hC2
          have HBL := Lib.hid hC3
          have HB4 := Lib.hid hb4
          have HA4 := Lib.hid (HAA.out.later hb4)
          have HAL4 := Lib.hid (HAL.out.later hb4)
          have hm30 : m ≤ 1000 := by
            have h1 := runH_len (ids.zip l)
            have h2 := congrArg List.length HRA1.out
            unfold allH at h2
            rw [List.length_map, if_pos HLEN.out] at h2
            rw [List.length_zip] at h1
            have := HM.out
            have := HN.out
            omega
          have HBW4 := Lib.hid ((HWR.out.trans (HB3.out.mono HWR.out.size)).trans (hb4.mono (HWR.out.trans (HB3.out.mono HWR.out.size)).size))
          clear hrl hC1 hC2 hC3 hb4 hmB HA2 HAA HAL HRA1
          go_wp2_with fail
          go_loopg [13] (m + 1) (fun k v13 wr => ∃ i : Nat, i ≤ m ∧ k + i = m + 1 ∧ v13 = .int .i64 i ∧ Below w4.heap.size w4 wr)
          case atStart => exact ⟨0, by omega, by omega, rfl, Below.refl _ _⟩
          case round =>
            obtain ⟨i, hi, hki, rfl, hbr⟩ := hrel
            have HBR := Lib.hid hbr
            by_cases hlt2 : i < m
            · have hiA : i < LA.length := by have := HM.out; omega
              have hiB : i < LB.length := by have := HMB.out; omega
              have hatA := HA4.out.later hbr
              have hatB := HBB.out.later hbr
              have hrel2 := HRL.out.at_ i (by simpa using hiA) (by simpa using hiB)
              simp only [List.getElem_map] at hrel2
              obtain ⟨ab, ao, rfl, _⟩ := hatA.head (by omega)
              obtain ⟨bb, bo, rfl, _⟩ := hatB.head (by omega)
              obtain ⟨c0, c1, c2, c3⟩ := hd_cells hatA hiA
              obtain ⟨d0, d1, d2, d3⟩ := hd_cells hatB hiB
              have hxA := (HAL4.out _ (List.getElem_mem hiA)).later hbr
              have hxB := (HBL.out _ (List.getElem_mem hiB)).later hbr
              have hsA := hatA.sub i 1
              have hsB := hatB.sub i 1
              have one : ∀ (K : List HA) (h : i < K.length), (K.drop i).take 1 = [K[i]] := fun K h => by
                rw [List.drop_eq_getElem_cons h]
                rfl
              rw [one LA hiA, show EH.S = 4 from rfl] at hsA
              rw [one LB hiB, show EH.S = 4 from rfl] at hsB
              obtain ⟨x, hxe⟩ : ∃ x, x = LA[i] := ⟨_, rfl⟩
              obtain ⟨y, hye⟩ : ∃ y, y = LB[i] := ⟨_, rfl⟩
              rw [← hxe] at c0 c1 c2 c3 hxA hrel2 hsA
              rw [← hye] at d0 d1 d2 d3 hxB hrel2 hsB
              have HREL := Lib.hid hrel2
              have HXA := Lib.hid hxA
              have HXB := Lib.hid hxB
              have HSA := Lib.hid hsA
              have HSB := Lib.hid hsB
              have hin := in_any x.1.mem x.2.1 x.2.2.1 mb wr hxA.m hxA.ml
              have n1 : (i : Int) < (m : Int) := by omega
              have n0 : (0 : Int) ≤ (i : Int) := by omega
              have n2 : (i : Int) + 1 ≤ (cA : Int) := by omega
              have n3 : (i : Int) + 1 ≤ (cB : Int) := by omega
              have n4 : ¬ cA = i := by omega
              have n5 : ¬ cB = i := by omega
              have n6 : (0 : Int) ≤ (i : Int) + 1 := by omega
              have n7 : i + 1 ≤ cA := by omega
              have n8 : i + 1 ≤ cB := by omega
              have nw : IntKind.i64.wrap ((i : Int) + 1) = (i : Int) + 1 := IntWalk.i64_in _ (by omega)
              have hOut := Lib.hid (show ∀ wy, HdAt wy y.1 y.2.1 y.2.2.2.1 → Calls Try.prog 13 #[.agg #[.string y.1.id, .string y.1.veh, .slice y.2.1 y.1.mem.length y.2.2.1, .slice y.2.2.2.1 y.1.back.length y.2.2.2.2]] wy (RetB (.bool (outB y.1)) wy) from fun wy h => out_any y.1 _ _ _ _ wy h)
              have hSame := Lib.hid (show ∀ wy, EH.At wy (some ⟨ab, ao + i * 4, none⟩) [x] → EH.At wy (some ⟨bb, bo + i * 4, none⟩) [y] → HAll wy [x] → HAll wy [y] → Calls Try.prog 15 #[.slice (some ⟨ab, ao + i * 4, none⟩) 1 (cA - i), .slice (some ⟨bb, bo + i * 4, none⟩) 1 (cB - i)] wy (RetB (.bool (sameB [x] [y])) wy) from fun wy h1 h2 h3 h4 => same_any [x] [y] _ _ _ _ wy h1 h2 h3 h4 (by simp))
              have hS : ∀ wy : World, Below wr.heap.size wr wy → (wy.cell? ⟨bb, bo + i * 4, none⟩ = some (.string y.1.id) ∧ wy.cell? ⟨bb, bo + i * 4 + 1, none⟩ = some (.string y.1.veh) ∧ wy.cell? ⟨bb, bo + i * 4 + 2, none⟩ = some (.slice y.2.1 y.1.mem.length y.2.2.1) ∧ wy.cell? ⟨bb, bo + i * 4 + 3, none⟩ = some (.slice y.2.2.2.1 y.1.back.length y.2.2.2.2)) ∧ HdAt wy y.1 y.2.1 y.2.2.2.1 ∧ EH.At wy (some ⟨ab, ao + i * 4, none⟩) [x] ∧ EH.At wy (some ⟨bb, bo + i * 4, none⟩) [y] ∧ HAll wy [x] ∧ HAll wy [y] := fun wy hy => ⟨⟨cell_later hy d0, cell_later hy d1, cell_later hy d2, cell_later hy d3⟩, HXB.out.later hy, HSA.out.later hy, HSB.out.later hy, fun u hu => by obtain rfl := List.mem_singleton.1 hu; exact HXA.out.later hy, fun u hu => by obtain rfl := List.mem_singleton.1 hu; exact HXB.out.later hy⟩
              clear hatA hatB hrel2 hxA hxB hsA hsB hxe hye one hbr
              cases hd : decide (mb ∈ x.1.mem)
              · rw [hd] at hin
                have HIN := Lib.hid hin
                have HD := Lib.hid (of_decide_eq_false hd)
                rw [sameB_yes (by
                  have h := HREL.out
                  show [x.1] = [y.1]
                  rw [Hd.ext' h.id h.veh h.mem (h.same (of_decide_eq_false hd))])] at hSame
                clear hin hd c0 c1 c3
                go_wp2_with fail
                refine Calls.mono HIN.out ?_
                rintro e w5 ⟨rfl, rfl⟩
                clear c2
                go_wp2_with fail
                refine wp_flow_s [] [] (by kernel_rfl) (by kernel_rfl) (by kernel_rfl) ?_
                repeat (first | ((with_reducible refine Flow.pure hS StayG.nil (v := ?_) ?_ ?_ ?_ ?_); rotate_left 1; (focus kernel_rfl); (focus (intro _; rfl)); (focus (intro β wx hSw; (try dsimp only at hSw); go_simp; (try with_reducible rfl); done)); (try simp only [Act.put, List.setIfInBounds_toArray, List.set_cons_zero, List.set_cons_succ, Nat.reduceAdd])) | ((with_reducible refine Flow.skip StayG.nil ?_ ?_ ?_); (focus kernel_rfl); (focus (intro _; rfl)); (try simp only [Act.put, List.setIfInBounds_toArray, List.set_cons_zero, List.set_cons_succ, Nat.reduceAdd])))
                ((with_reducible refine Flow.call hS StayG.nil (v := ?_) ?_ ?_ ?_ ?_); rotate_left 1; (focus kernel_rfl); (focus (intro _; rfl)); (focus (intro β L wx hI hat hSw K' hK; (try dsimp only at hSw); go_simp; go_at_call 15; refine Calls.mono (hSame.out _ hSw.2.2.1 hSw.2.2.2.1 hSw.2.2.2.2.1 hSw.2.2.2.2.2) ?_; rintro e w' ⟨rfl, hb'⟩; exact hK.out _ hb')); (try simp only [Act.put, List.setIfInBounds_toArray, List.set_cons_zero, List.set_cons_succ, Nat.reduceAdd]))
                repeat (first | ((with_reducible refine Flow.pure hS StayG.nil (v := ?_) ?_ ?_ ?_ ?_); rotate_left 1; (focus kernel_rfl); (focus (intro _; rfl)); (focus (intro β wx hSw; (try dsimp only at hSw); go_simp; (try with_reducible rfl); done)); (try simp only [Act.put, List.setIfInBounds_toArray, List.set_cons_zero, List.set_cons_succ, Nat.reduceAdd])) | ((with_reducible refine Flow.skip StayG.nil ?_ ?_ ?_); (focus kernel_rfl); (focus (intro _; rfl)); (try simp only [Act.put, List.setIfInBounds_toArray, List.set_cons_zero, List.set_cons_succ, Nat.reduceAdd])))
                ((with_reducible refine Flow.stop ?_); dsimp only; intro β w8 hI8)
                have HB8 := Lib.hid (HBR.out.trans (hI8.below.mono HBR.out.size))
                clear hS hI8 d0 d1 d2 d3
                go_wp2_with fail
                go_roundg (m - i)
                case measure => omega
                case rel => exact ⟨i + 1, by omega, by omega, by go_num, HB8.out⟩
              · rw [hd] at hin
                have HIN := Lib.hid hin
                rw [outB_yes (by
                  have h := HREL.out
                  exact ⟨mb, by rw [← h.mem]; exact of_decide_eq_true hd, h.no⟩)] at hOut
                clear hin hd c0 c1 c3
                go_wp2_with fail
                refine Calls.mono HIN.out ?_
                rintro e w5 ⟨rfl, rfl⟩
                clear c2
                go_wp2_with fail
                refine wp_flow_s [] [] (by kernel_rfl) (by kernel_rfl) (by kernel_rfl) ?_
                repeat (first | ((with_reducible refine Flow.pure hS StayG.nil (v := ?_) ?_ ?_ ?_ ?_); rotate_left 1; (focus kernel_rfl); (focus (intro _; rfl)); (focus (intro β wx hSw; (try dsimp only at hSw); go_simp; (try with_reducible rfl); done)); (try simp only [Act.put, List.setIfInBounds_toArray, List.set_cons_zero, List.set_cons_succ, Nat.reduceAdd])) | ((with_reducible refine Flow.skip StayG.nil ?_ ?_ ?_); (focus kernel_rfl); (focus (intro _; rfl)); (try simp only [Act.put, List.setIfInBounds_toArray, List.set_cons_zero, List.set_cons_succ, Nat.reduceAdd])))
                ((with_reducible refine Flow.call hS StayG.nil (v := ?_) ?_ ?_ ?_ ?_); rotate_left 1; (focus kernel_rfl); (focus (intro _; rfl)); (focus (intro β L wx hI hat hSw K' hK; (try dsimp only at hSw); go_simp; go_at_call 13; refine Calls.mono (hOut.out _ hSw.2.1) ?_; rintro e w' ⟨rfl, hb'⟩; exact hK.out _ hb')); (try simp only [Act.put, List.setIfInBounds_toArray, List.set_cons_zero, List.set_cons_succ, Nat.reduceAdd]))
                repeat (first | ((with_reducible refine Flow.pure hS StayG.nil (v := ?_) ?_ ?_ ?_ ?_); rotate_left 1; (focus kernel_rfl); (focus (intro _; rfl)); (focus (intro β wx hSw; (try dsimp only at hSw); go_simp; (try with_reducible rfl); done)); (try simp only [Act.put, List.setIfInBounds_toArray, List.set_cons_zero, List.set_cons_succ, Nat.reduceAdd])) | ((with_reducible refine Flow.skip StayG.nil ?_ ?_ ?_); (focus kernel_rfl); (focus (intro _; rfl)); (try simp only [Act.put, List.setIfInBounds_toArray, List.set_cons_zero, List.set_cons_succ, Nat.reduceAdd])))
                ((with_reducible refine Flow.stop ?_); dsimp only; intro β w8 hI8)
                have HB8 := Lib.hid (HBR.out.trans (hI8.below.mono HBR.out.size))
                clear hS hI8 d0 d1 d2 d3
                go_wp2_with fail
                go_roundg (m - i)
                case measure => omega
                case rel => exact ⟨i + 1, by omega, by omega, by go_num, HB8.out⟩
            · obtain rfl : i = m := by omega
              have HBW := Lib.hid (HBW4.out.trans (hbr.mono HBW4.out.size))
              clear hbr
              go_wp2_with fail
              go_ret
              exact retB rfl HBW.out
theorem walk (W : World) (ia : Option Addr) (ic : Nat) (i : List ByteArray) (iV : ES.At W ia i) (ra : Option Addr) (rc : Nat) (r : List Rec) (rR : ER.At W ra r) (rA : RecAll W r) (m : Int) :
    Calls Try.prog 8 #[.slice ia i.length ic, .slice ra r.length rc, .int .i64 m] W (RetB (.bool true) W) := by
  by_cases h : FewR i r 30
  · by_cases h2 : i.length = r.length
    · exact yes i r ia ra ic rc m W iV rR rA h h2
    · exact no i r ia ra ic rc m W iV rR rA (.inr ⟨h, h2⟩)
  · exact no i r ia ra ic rc m W iV rR rA (.inl h)
end HoldNobody
namespace HoldNobody
set_option maxRecDepth 100000 in
theorem entry (H : Type) (enc : TypeId × Value → H) (W : World) (base : Nat) (args : Array Value) (ds : List (DataW H)) (p : List MemPlace)
    (hval : ∀ (j : Nat) t v, Try.f8.params[j]? = some t → args[j]? = some v → Value.okWide Try.prog W .any base t v)
    (hA : DataW.TrodAll enc Try.prog W 0 (fun _ => true) true Try.f8.params.toList args.toList ds p) :
    Calls Try.prog 8 args W (RetB (.bool true) W) := by
  rw [Try.params8] at hA hval
  obtain ⟨v0, vs0, d0, ds0, p0, q0, hargs, rfl, rfl, h0, r0⟩ := trodAll_cons hA
  obtain ⟨v1, vs1, d1, ds1, p1, q1, rfl, rfl, rfl, h1, r1⟩ := trodAll_cons r0
  obtain ⟨v2, vs2, d2, ds2, p2, q2, rfl, rfl, rfl, h2, r2⟩ := trodAll_cons r1
  obtain ⟨rfl, rfl, rfl⟩ := trodAll_nil r2
  obtain rfl : args = #[v0, v1, v2] := by cases args; simp_all
  obtain ⟨ia, ic, i, rfl, iV⟩ := open_strs (hval 0 22 v0 rfl rfl) h0
  obtain ⟨ra, rc, r, rfl, rR, rA⟩ := open_recs (hval 1 23 v1 rfl rfl) h1
  obtain ⟨m, rfl, rfl, rfl, _⟩ := open_int Try.underlying3 (hval 2 3 v2 rfl rfl) h2
  exact walk W ia ic i iV ra rc r rR rA m
end HoldNobody
/-! The step from the walk to the row of HoldNobody. -/
namespace HoldNobody
set_option maxRecDepth 100000 in
theorem lifted (os : Os) (started : os.Started) (H : Type) (enc : TypeId × Value → H) :
    ReturnsInHanded {} Try.checked os 8 .any (Rows.holdNobodySpec.pre6 enc Try.prog Try.f8 Rows.holdNobodyRow.domain false) (Rows.holdNobodySpec.post enc Try.prog Try.f8 false true false false) := by
  refine returnsInHanded_of_change (C := Try.checked) own started (by kernel_rfl) Try.func8
    (ChangeSpec.witness6 (enc := enc) (C := Try.checked) false ⟨#[], #[.slice none 0 0, .slice none 0 0, .int .i64 0], []⟩ 8 (by kernel_rfl) (by kernel_rfl) (by kernel_rfl) (by kernel_rfl)) ?_
  intro W base args ds gs before hval0 hW hcnd _
  have hval : ∀ (j : Nat) t v, Try.f8.params[j]? = some t → args[j]? = some v → Value.okWide Try.prog W .any base t v := hval0
  have hW' := hW
  obtain ⟨p, q, hA0, hV, rfl, hfz, hnd⟩ := hW
  have hA : DataW.TrodAll enc Try.prog W 0 (fun _ => true) true Try.f8.params.toList args.toList ds p := hA0
  obtain ⟨rfl, rfl⟩ := trodVars_none hV
  have hlen := trodAll_len _ _ _ _ hA
  obtain ⟨d0, d1, d2, rfl⟩ : ∃ d0 d1 d2, ds = [d0, d1, d2] := by
    rw [Try.params8] at hlen
    exact list3 hlen
  refine (entry H enc W base args [d0, d1, d2] p hval hA).mono fun e W' ⟨he, bel⟩ => ?_
  subst he
  exact ⟨_, rfl, _, _, _, [], _, [], hW', trodAll_mk1 (shut_bool Try.underlying4 _), readback laidOut _ _ _ _ (by rw [Try.params8]; exact of_decide_eq_true (by kernel_rfl)) hA bel, rfl, bel.frame _, fun h => by cases h⟩

theorem over : Rows.holdNobodyRow.holds Try.pinned (OpenSpec.ofChange Rows.holdNobodySpec) :=
  OpenClaim.holds_of_wide 8 Try.f8 rfl rfl rfl rfl rfl rfl rfl ⟨rfl, rfl, rfl, rfl, rfl⟩ rfl rfl rfl rfl rfl (by kernel_rfl) Try.func8 (by kernel_rfl)
    (of_decide_eq_true (by kernel_rfl)) (by unfold Func.isWrapper; first | (rw [if_pos (by decide +kernel)]; kernel_rfl) | (rw [if_neg (by decide +kernel)]; exact ⟨rfl, rfl⟩))
    (fun os started H enc _ => lifted os started H enc)

/-- THE STATEMENT -/
theorem proved : Rows.HoldNobodySaid := over
end HoldNobody
#print axioms HoldNobody.proved
end Go.Proofs.Ytgoomcnaemfjcaa
