


/- HoldEarly: for all Ids and records, with the records that give back in front, no hold has been given back, and all are out: the call of the law returns true, for every input. -/
import Derived.Test.YtgoomcnaemfjcaaHldI
namespace Go.Proofs.Ytgoomcnaemfjcaa
open Go.ChangeShapes Go.WideShapes Go.ChangeAt Go.RowKit Go.Joins

namespace HoldEarly
def isB (x : ByteArray × Rec) : Bool := decide (x.2.kind = 6)
theorem run_backs (z : List (ByteArray × Rec)) (h : ∀ x ∈ z, x.2.kind = 6) : runH z = [] := by
  have : ∀ (z : List (ByteArray × Rec)), (∀ x ∈ z, x.2.kind = 6) → z.foldl stepH [] = [] := fun z => by
    induction z with
    | nil => exact fun _ => rfl
    | cons x z ih =>
      intro h
      rw [List.foldl_cons, show stepH [] x = [] from step_back (s := x.1) (r := x.2) (h x (by simp))]
      exact ih fun y hy => h y (by simp [hy])
  exact this z h
theorem run_noback (z : List (ByteArray × Rec)) (h : ∀ x ∈ z, x.2.kind ≠ 6) : ∀ k ∈ runH z, k.back = [] ∧ k.mem ≠ [] := by
  have : ∀ (z : List (ByteArray × Rec)) hs, (∀ x ∈ z, x.2.kind ≠ 6) → (∀ k ∈ hs, k.back = [] ∧ k.mem ≠ []) → ∀ k ∈ z.foldl stepH hs, k.back = [] ∧ k.mem ≠ [] := fun z => by
    induction z with
    | nil => exact fun hs _ h => h
    | cons x z ih =>
      intro hs h h0
      refine ih _ (fun y hy => h y (by simp [hy])) fun k hk => ?_
      unfold stepH at hk
      split at hk
      · split at hk
        · rename_i h5 h7
          rcases List.mem_append.1 hk with h1 | h1
          · exact h0 k h1
          · simp at h1
            rw [h1]
            exact ⟨rfl, h7.1⟩
        · exact h0 k hk
      · split at hk
        · rename_i h6
          exact absurd h6 (h x (by simp))
        · exact h0 k hk
  exact this z [] h (by simp)
theorem step_ids {hs hs' : List Hd} (h : hs.map Hd.id = hs'.map Hd.id) (x : ByteArray × Rec) : (stepH hs x).map Hd.id = (stepH hs' x).map Hd.id := by
  have e : ∀ (hs : List Hd), (∀ k ∈ hs, k.id ≠ x.1) ↔ x.1 ∉ hs.map Hd.id := fun hs => by
    constructor
    · intro h1 h2
      obtain ⟨k, hk, e⟩ := List.mem_map.1 h2
      exact h1 k hk e
    · intro h1 k hk e
      exact h1 (List.mem_map.2 ⟨k, hk, e⟩)
  have e2 : (∀ k ∈ hs, k.id ≠ x.1) ↔ (∀ k ∈ hs', k.id ≠ x.1) := by rw [e, e, h]
  unfold stepH
  by_cases h5 : x.2.kind = 5
  · rw [if_pos h5, if_pos h5]
    by_cases h1 : x.2.members ≠ [] ∧ ∀ k ∈ hs, k.id ≠ x.1
    · rw [if_pos h1, if_pos ⟨h1.1, e2.1 h1.2⟩]
      simp [h]
    · rw [if_neg h1, if_neg (fun h2 => h1 ⟨h2.1, e2.2 h2.2⟩)]
      exact h
  · rw [if_neg h5, if_neg h5]
    by_cases h6 : x.2.kind = 6
    · rw [if_pos h6, if_pos h6, List.map_map, List.map_map, show Hd.id ∘ backH x.2 = Hd.id from funext fun y => backH_id x.2 y]
      exact h
    · rw [if_neg h6, if_neg h6]
      exact h
theorem run_ids (z : List (ByteArray × Rec)) : (runH (z.filter fun x => !isB x)).map Hd.id = (runH z).map Hd.id := by
  have : ∀ (z : List (ByteArray × Rec)) hs hs', hs.map Hd.id = hs'.map Hd.id → ((z.filter fun x => !isB x).foldl stepH hs).map Hd.id = (z.foldl stepH hs').map Hd.id := fun z => by
    induction z with
    | nil => exact fun _ _ h => h
    | cons x z ih =>
      intro hs hs' h
      by_cases hb : x.2.kind = 6
      · rw [List.filter_cons_of_neg (by simp [isB, hb]), List.foldl_cons]
        refine ih _ _ ?_
        rw [show stepH hs' x = hs'.map (backH x.2) from step_back (s := x.1) (r := x.2) hb, List.map_map, show Hd.id ∘ backH x.2 = Hd.id from funext fun y => backH_id x.2 y]
        exact h
      · rw [List.filter_cons_of_pos (by simp [isB, hb]), List.foldl_cons, List.foldl_cons]
        exact ih _ _ (step_ids h x)
  exact this z [] [] rfl
theorem run_early (z : List (ByteArray × Rec)) : runH (z.filter isB ++ z.filter fun x => !isB x) = runH (z.filter fun x => !isB x) := by
  unfold runH
  rw [List.foldl_append]
  have := run_backs (z.filter isB) fun x hx => of_decide_eq_true (List.mem_filter.1 hx).2
  unfold runH at this
  rw [this]
/-- what one of the two passes takes -/
def tst (p : Nat) (x : ByteArray × Rec) : Bool := decide (x.2.kind = 6) == (p == 0)
def Zf (z : List (ByteArray × Rec)) : Nat → List (ByteArray × Rec)
  | 0 => []
  | p + 1 => Zf z p ++ z.filter (tst p)
theorem Zf_two (z : List (ByteArray × Rec)) : Zf z 2 = z.filter isB ++ z.filter fun x => !isB x := by
  unfold Zf Zf Zf
  rw [List.nil_append]
  congr 1
  · refine List.filter_congr fun x _ => ?_
    simp [tst, isB]
  · refine List.filter_congr fun x _ => ?_
    simp [tst, isB]
set_option maxRecDepth 100000 in
set_option maxHeartbeats 4000000 in
theorem no (ids : List ByteArray) (l : List Rec) (ia ra : Option Addr) (ic rc : Nat) (w : World) (hI : ES.At w ia ids) (hR : ER.At w ra l) (hA : RecAll w l) (hno : ¬ FewR ids l 30 ∨ (FewR ids l 30 ∧ ids.length ≠ l.length)) :
    Calls Try.prog 6 #[.slice ia ids.length ic, .slice ra l.length rc] w (RetB (.bool true) w) := by
  have HI := Lib.hid hI
  have HR := Lib.hid hR
  have HRA := Lib.hid hA
  clear hI hR hA
  rcases hno with h | ⟨h, hne⟩
  · have HF := Lib.hid (fewRB_no h)
    clear h
    go_enter Try.func6, Try.ntmps6
    go_wp2_with fail
    refine Calls.mono (head_any _) ?_
    rintro e w1 ⟨rfl, hb1⟩
    have HB1 := Lib.hid hb1
    clear hb1
    go_wp2_with fail
    have hf := few_any ids l ia ra ic rc w1 (HI.out.later HB1.out) (HR.out.later HB1.out) (HRA.out.later HB1.out)
    rw [HF.out] at hf
    refine Calls.mono hf ?_
    rintro e w2 ⟨rfl, rfl⟩
    clear hf
    go_wp2_with fail
    go_ret
    exact retB rfl HB1.out
  · have HF := Lib.hid (fewRB_yes h)
    have d1 : (ids.length == l.length) = false := by simpa using hne
    have d2 : ((ids.length : Int) == (l.length : Int)) = false := by simp; omega
    clear h hne
    go_enter Try.func6, Try.ntmps6
    go_wp2_with fail
    refine Calls.mono (head_any _) ?_
    rintro e w1 ⟨rfl, hb1⟩
    have HB1 := Lib.hid hb1
    clear hb1
    go_wp2_with fail
    have hf := few_any ids l ia ra ic rc w1 (HI.out.later HB1.out) (HR.out.later HB1.out) (HRA.out.later HB1.out)
    rw [HF.out] at hf
    refine Calls.mono hf ?_
    rintro e w2 ⟨rfl, rfl⟩
    clear hf
    go_wp2_with fail
    go_ret
    exact retB rfl HB1.out
set_option maxRecDepth 100000 in
set_option maxHeartbeats 4000000 in
theorem yes (ids : List ByteArray) (l : List Rec) (ia ra : Option Addr) (ic rc : Nat) (w : World) (hI : ES.At w ia ids) (hR : ER.At w ra l) (hA : RecAll w l) (hf0 : FewR ids l 30) (hlen : ids.length = l.length) :
    Calls Try.prog 6 #[.slice ia ids.length ic, .slice ra l.length rc] w (RetB (.bool true) w) := by
  have HI := Lib.hid hI
  have HR := Lib.hid hR
  have HRA := Lib.hid hA
  have HFE := Lib.hid hf0
  have HF := Lib.hid (fewRB_yes hf0)
  have HLEN := Lib.hid hlen
  have hl30 := hf0.1
  obtain ⟨n, hn⟩ : ∃ n, n = l.length := ⟨_, rfl⟩
  have HN := Lib.hid hn
  have HFEW := Lib.hid (show ∀ wy, ES.At wy ia ids → ER.At wy ra l → RecAll wy l → Calls Try.prog 10 #[.slice ia n ic, .slice ra n rc] wy (RetS (.bool true) wy) from fun wy h1 h2 h3 => by
    have h := few_any ids l ia ra ic rc wy h1 h2 h3
    rw [HF.out, hlen, ← hn] at h
    exact h)
  rw [hlen, ← hn]
  rw [← hn] at hl30
  have e0 : ((n : Int) == (n : Int)) = true := by simp
  clear hI hR hA hf0 hlen hn
  go_enter Try.func6, Try.ntmps6
  go_wp2_with fail
  refine Calls.mono (head_any _) ?_
  rintro e w1 ⟨rfl, hb1⟩
  have HB1 := Lib.hid hb1
  clear hb1
  go_wp2_with fail
  refine Calls.mono (HFEW.out w1 (HI.out.later HB1.out) (HR.out.later HB1.out) (HRA.out.later HB1.out)) ?_
  rintro e w2 ⟨rfl, rfl⟩
  go_wp2_with fail
  obtain ⟨z, hz⟩ : ∃ z, z = ids.zip l := ⟨_, rfl⟩
  have hzl : z.length = n := by rw [hz, List.length_zip]; have := HLEN.out; have := HN.out; omega
  have HZ := Lib.hid hz
  have HZL := Lib.hid hzl
  clear hz hzl
  go_loopg [6, 7, 8] 3 (fun k v6 v7 v8 wr => ∃ p : Nat, p ≤ 2 ∧ k + p = 3 ∧ v8 = .int .i64 p ∧ Below w1.heap.size w1 wr ∧ ER.Own wr w1.heap.size v6 ((Zf z p).map (·.2)) ∧ ES.Own wr w1.heap.size v7 ((Zf z p).map (·.1)) ∧ (Zf z p).length ≤ p * n)
  case atStart => exact ⟨0, by omega, by omega, rfl, Below.refl _ _, El.Own.nil _ _ _, El.Own.nil _ _ _, by simp [Zf]⟩
  case round =>
    obtain ⟨p, hp, hkp, rfl, hbp, hop1, hop2, hpl⟩ := hrel
    have HOP1 := Lib.hid hop1
    have HOP2 := Lib.hid hop2
    have HBP := Lib.hid hbp
    clear hop1 hop2 hbp
    by_cases hp2 : p < 2
    · have d0 : decide (p < 2) = true := decide_eq_true hp2
      go_wp2_with fail
      go_loopg [6, 7, 9] (n + 1) (fun k v6 v7 v9 wr => ∃ j : Nat, j ≤ n ∧ k + j = n + 1 ∧ v9 = .int .i64 j ∧ Below w1.heap.size w1 wr ∧ ER.Own wr w1.heap.size v6 ((Zf z p ++ (z.take j).filter (tst p)).map (·.2)) ∧ ES.Own wr w1.heap.size v7 ((Zf z p ++ (z.take j).filter (tst p)).map (·.1)))
      case atStart => exact ⟨0, by omega, by omega, rfl, HBP.out, by simpa using HOP1.out, by simpa using HOP2.out⟩
      case round =>
        obtain ⟨j, hj, hkj, rfl, hbj, ho1, ho2⟩ := hrel
        have HBJ := Lib.hid hbj
        by_cases hlt : j < n
        · have hjL : j < l.length := by have := HN.out; omega
          have hjI : j < ids.length := by have := HN.out; have := HLEN.out; omega
          have hjz : j < z.length := by have := HZL.out; omega
          have hIr := (HI.out.later HB1.out).later hbj
          have hRr := (HR.out.later HB1.out).later hbj
          have hAr := (HRA.out.later HB1.out).later hbj
          obtain ⟨ib, io, rfl, _⟩ := hIr.head (by omega)
          obtain ⟨rb, ro, rfl, _⟩ := hRr.head (by omega)
          have hsc := str_cell hIr hjI
          have hrg := hRr.range hjL
          rw [show ER.S = 36 from rfl] at hrg
          obtain ⟨k0, _, _, _, _⟩ := rc_cells hRr hAr hjL
          have hzj : z[j] = (ids[j], l[j]) := by simp [HZ.out]
          have htk : ∀ t : ByteArray × Rec → Bool, (z.take (j + 1)).filter t = (z.take j).filter t ++ if t (ids[j], l[j]) then [(ids[j], l[j])] else [] := fun t => by
            rw [List.take_succ_eq_append_getElem hjz, List.filter_append, hzj]
            by_cases h : t (ids[j], l[j]) <;> simp [h]
          obtain ⟨r, hr⟩ : ∃ r, r = l[j] := ⟨_, rfl⟩
          obtain ⟨s, hs⟩ : ∃ s, s = ids[j] := ⟨_, rfl⟩
          rw [← hr] at hrg k0 htk
          rw [← hs] at hsc htk
          change wr.rangeAt rb (ro + j * 36) r.cs at hrg
          have HTK := Lib.hid htk
          have HRG := Lib.hid hrg
          have n1 : (j : Int) < (n : Int) := by omega
          have n0 : (0 : Int) ≤ (j : Int) := by omega
          obtain ⟨Z, hZ⟩ : ∃ Z, Z = Zf z p ++ (z.take j).filter (tst p) := ⟨_, rfl⟩
          rw [← hZ] at ho1 ho2
          have HZE := Lib.hid hZ
          have hZl : Z.length ≤ 200 := by
            have h1 := List.length_filter_le (tst p) (z.take j)
            rw [List.length_take] at h1
            have h2 : p * n ≤ 2 * n := Nat.mul_le_mul_right _ (by omega)
            rw [hZ, List.length_append]
            omega
          have HO1 := Lib.hid ho1
          have HO2 := Lib.hid ho2
          clear hr hs hzj htk hIr hRr hAr hrg hZ
          have hbA : Below wr.heap.size wr (wr.alloc (.cells r.cs.toArray 54)) := (by repeat (first | exact Below.refl _ _ | assumption | refine Below.drew ?_ | refine below_drewN ?_ _ | refine Below.alloc ?_ (by first | omega | (simp; done) | (simp; omega)) _ | refine Below.setCell ?_ (by first | omega | (simp; done) | (simp; omega)) _ | refine Below.trans ?_ (Below.mono (by assumption) (by first | omega | (simp; done) | (simp; omega)))))
          obtain ⟨va, w3, hr3, ho3, hg3, hn3⟩ := El.app (E := ER) (wr.alloc (.cells r.cs.toArray 54)) w1.heap.size _ _ [r] (ho1.later hbA) (some ⟨wr.heap.size, 0, none⟩) 1 (El.at_lit ER wr [r] r.cs.toArray 54 (by simp [ER])) (by simp; omega) (by have := hbj.size; simp; omega) 23
          have ho2A := ho2.later hbA
          have hlt3 : ∀ g, u6.ownBlock = some g → w1.heap.size ≤ g := fun g hg => (ho1.lt g hg).1
          have hszj := hbj.size
          have hb3 : Below w1.heap.size w1 w3 := (hbj.trans (hbA.mono hbj.size)).grown hg3 (by simp; omega) hlt3
          have ho4 : ES.Own w3 w1.heap.size u7 (Z.map (·.1)) := ho2A.block fun g hg => hg3.block g (ho2A.lt g hg).2 fun e => by
            exact absurd rfl ((ho2A.ty hg).ne ((ho1.later hbA).ty e.symm) (by decide))
          have hbB : Below w3.heap.size w3 (w3.alloc (.cells #[.string s] 9)) := (by repeat (first | exact Below.refl _ _ | assumption | refine Below.drew ?_ | refine below_drewN ?_ _ | refine Below.alloc ?_ (by first | omega | (simp; done) | (simp; omega)) _ | refine Below.setCell ?_ (by first | omega | (simp; done) | (simp; omega)) _ | refine Below.trans ?_ (Below.mono (by assumption) (by first | omega | (simp; done) | (simp; omega)))))
          obtain ⟨vb, w5, hr5, ho5, hg5, hn5⟩ := El.app (E := ES) (w3.alloc (.cells #[.string s] 9)) w1.heap.size _ _ [s] (ho4.later hbB) (some ⟨w3.heap.size, 0, none⟩) 1 (El.at_lit ES w3 [s] #[.string s] 9 rfl) (by simp; omega) (by have := hb3.size; simp; omega) 22
          have hlt5 : ∀ g, u7.ownBlock = some g → w1.heap.size ≤ g := fun g hg => (ho4.lt g hg).1
          have hb5 : Below w1.heap.size w1 w5 := (hb3.trans (hbB.mono hb3.size)).grown hg5 (by have := hb3.size; simp; omega) hlt5
          have ho3B := ho3.later hbB
          have ho6 : ER.Own w5 w1.heap.size va (Z.map (·.2) ++ [r]) := ho3B.block fun g hg => hg5.block g (ho3B.lt g hg).2 fun e => by
            exact absurd rfl ((ho3B.ty hg).ne ((ho4.later hbB).ty e.symm) (by decide))
          have HR3 := Lib.hid hr3
          have HR5 := Lib.hid hr5
          have HO5 := Lib.hid ho5
          have HO6 := Lib.hid ho6
          have HB5 := Lib.hid hb5
          have hs3 := hb3.size
          have lib : ib < wr.heap.size := World.block_lt_of_cell? _ _ hsc
          have hsc3 : w3.cell? ⟨ib, io + j, none⟩ = some (.string s) := by
            have h1 := cell_later hbA hsc
            rw [World.cell?_of_block (w := wr.alloc (.cells r.cs.toArray 54)) (hg3.block ib (by simp; omega) fun e => by
              have h2 := (ho1.lt ib e.symm).1
              have h3 : ib < w1.heap.size := World.block_lt_of_cell? _ _ (str_cell (HI.out.later HB1.out) hjI)
              omega)]
            exact h1
          clear hr3 hr5 ho5 ho6 hb5 ho1 ho2 ho2A ho3 ho4 hbA hbB hg3 hg5 hn3 hn5 ho3B hb3
          have hfold := fold_rec r
          have hcl := r.hl
          by_cases ht : tst p (s, r) = true
          · have HTT := Lib.hid ht
            cases hk6 : (r.kind == (6 : Int))
            · skip
              have hp0 : (p == 0) = false := by
                unfold tst at ht
                rw [show decide (r.kind = 6) = false from by simpa using hk6] at ht
                simpa using ht
              obtain rfl : p = 1 := by have : p ≠ 0 := by simpa using hp0
                                       omega
              clear ht hp0 hbj
              go_wp2_with (first | (refine wpList_load_mid rfl 54 _ rfl rb (ro + j * 36) rfl r.cs _ HRG.out Try.underlying54 rfl (rec_size r) ?_) | (at_builtin; first | (refine wpList_app_eq rfl _ _ _ rfl _ _ rfl rfl HR3.out ?_) | (refine wpList_app_eq rfl _ _ _ rfl _ _ rfl rfl HR5.out ?_)))
              go_roundg (n - j)
              case measure => omega
              case rel => exact ⟨j + 1, by omega, by omega, by go_num, HB5.out, by rw [HTK.out, if_pos HTT.out, ← List.append_assoc, ← HZE.out, List.map_append]; exact HO6.out, by rw [HTK.out, if_pos HTT.out, ← List.append_assoc, ← HZE.out, List.map_append]; exact HO5.out⟩
            · skip
              have hp0 : (p == 0) = true := by
                unfold tst at ht
                rw [show decide (r.kind = 6) = true from by simpa using hk6] at ht
                simpa using ht
              obtain rfl : p = 0 := by simpa using hp0
              clear ht hp0 hbj
              go_wp2_with (first | (refine wpList_load_mid rfl 54 _ rfl rb (ro + j * 36) rfl r.cs _ HRG.out Try.underlying54 rfl (rec_size r) ?_) | (at_builtin; first | (refine wpList_app_eq rfl _ _ _ rfl _ _ rfl rfl HR3.out ?_) | (refine wpList_app_eq rfl _ _ _ rfl _ _ rfl rfl HR5.out ?_)))
              go_roundg (n - j)
              case measure => omega
              case rel => exact ⟨j + 1, by omega, by omega, by go_num, HB5.out, by rw [HTK.out, if_pos HTT.out, ← List.append_assoc, ← HZE.out, List.map_append]; exact HO6.out, by rw [HTK.out, if_pos HTT.out, ← List.append_assoc, ← HZE.out, List.map_append]; exact HO5.out⟩
          · have HTT := Lib.hid ht
            clear hsc3 hfold
            cases hk6 : (r.kind == (6 : Int))
            · skip
              have hp0 : (p == 0) = true := by
                unfold tst at ht
                rw [show decide (r.kind = 6) = false from by simpa using hk6] at ht
                simpa using ht
              obtain rfl : p = 0 := by simpa using hp0
              clear ht hp0 hbj
              go_wp2_with fail
              go_roundg (n - j)
              case measure => omega
              case rel => exact ⟨j + 1, by omega, by omega, by go_num, HBJ.out, by rw [HTK.out, if_neg HTT.out, List.append_nil, ← HZE.out]; exact HO1.out, by rw [HTK.out, if_neg HTT.out, List.append_nil, ← HZE.out]; exact HO2.out⟩
            · skip
              have hp0 : (p == 0) = false := by
                unfold tst at ht
                rw [show decide (r.kind = 6) = true from by simpa using hk6] at ht
                simpa using ht
              obtain rfl : p = 1 := by have : p ≠ 0 := by simpa using hp0
                                       omega
              clear ht hp0 hbj
              go_wp2_with fail
              go_roundg (n - j)
              case measure => omega
              case rel => exact ⟨j + 1, by omega, by omega, by go_num, HBJ.out, by rw [HTK.out, if_neg HTT.out, List.append_nil, ← HZE.out]; exact HO1.out, by rw [HTK.out, if_neg HTT.out, List.append_nil, ← HZE.out]; exact HO2.out⟩
        · obtain rfl : j = n := by omega
          have ez : (Zf z p ++ (z.take j).filter (tst p)) = Zf z (p + 1) := by rw [List.take_of_length_le (by rw [HZL.out]; exact Nat.le_refl _)]; rfl
          rw [ez] at ho1 ho2
          have HO1 := Lib.hid ho1
          have HO2 := Lib.hid ho2
          have hzz : (Zf z (p + 1)).length ≤ (p + 1) * j := by
            unfold Zf
            rw [List.length_append, Nat.succ_mul]
            have := List.length_filter_le (tst p) z
            rw [HZL.out] at this
            omega
          clear ho1 ho2 hbj ez
          go_wp2_with fail
          go_roundg (2 - p)
          case measure => omega
          case rel => exact ⟨p + 1, by omega, by omega, by go_num, HBJ.out, HO1.out, HO2.out, hzz⟩
    · obtain rfl : p = 2 := by omega
      obtain ⟨an, cn, e7, _, _, hatN, _⟩ := HOP2.out.at
      obtain ⟨aa, ca, e6, _, _, hatR, _⟩ := HOP1.out.at
      rw [List.length_map] at e6 e7
      obtain ⟨Z, hZ⟩ : ∃ Z, Z = Zf z 2 := ⟨_, rfl⟩
      rw [← hZ] at e6 e7 hatN hatR
      have hzip : (Z.map (·.1)).zip (Z.map (·.2)) = Z := by
        rw [List.zip_map', List.map_id']
      have hmemZ : ∀ x ∈ Z, x ∈ z := fun x hx => by
        rw [hZ, Zf_two] at hx
        rcases List.mem_append.1 hx with h | h <;> exact (List.mem_filter.1 h).1
      have hmem1 : ∀ s ∈ Z.map (·.1), s ∈ ids := fun s hs => by
        obtain ⟨x, hx, rfl⟩ := List.mem_map.1 hs
        have := hmemZ x hx
        rw [HZ.out] at this
        exact (List.of_mem_zip this).1
      have hmem2 : ∀ r ∈ Z.map (·.2), r ∈ l := fun r hr => by
        obtain ⟨x, hx, rfl⟩ := List.mem_map.1 hr
        have := hmemZ x hx
        rw [HZ.out] at this
        exact (List.of_mem_zip this).2
      have hraw := (HRA.out.later HB1.out).later HBP.out
      have A1 := all_any (Z.map (·.1)) (Z.map (·.2)) an aa cn ca wr hatN hatR (fun r hr => hraw r (hmem2 r hr)) ⟨by rw [List.length_map, hZ]; omega, fun s hs => by have := HFE.out.2.2.2 s (hmem1 s hs); omega, fun r hr => by have := (HFE.out.2.2.1 r (hmem2 r hr)).2.2; omega⟩
      have hall : allH (Z.map (·.1)) (Z.map (·.2)) = runH (z.filter fun x => !isB x) := by
        unfold allH
        rw [if_pos (by simp), hzip, hZ, Zf_two, run_early]
      rw [hall, List.length_map, List.length_map] at A1
      have HA1 := Lib.hid A1
      clear hall A1 hzip hmemZ hmem1 hmem2 hraw hatN hatR hZ hpl HOP1 HOP2
      subst e6 e7
      go_wp2_with fail
      refine Calls.mono HA1.out ?_
      rintro e w3 ⟨ah, ch, L, rfl, hL1, hL2, hL3, _, _, _, hb3⟩
      have hprop : ∀ i (hi : i < L.length), L[i].1.back = [] ∧ L[i].1.mem ≠ [] := fun i hi => by
        refine run_noback (z.filter fun x => !isB x) (fun x hx => ?_) _ ?_
        · have := (List.mem_filter.1 hx).2
          simpa [isB] using this
        · rw [← hL1]
          exact List.mem_map.2 ⟨_, List.getElem_mem hi, rfl⟩
      have HPROP := Lib.hid hprop
      have HL1 := Lib.hid hL1
      have HL2 := Lib.hid hL2
      have HL3 := Lib.hid hL3
      have HB3 := Lib.hid ((HB1.out.trans (HBP.out.mono HB1.out.size)).trans (hb3.mono (HB1.out.trans (HBP.out.mono HB1.out.size)).size))
      obtain ⟨m, hm⟩ : ∃ m, m = L.length := ⟨_, rfl⟩
      have HM := Lib.hid hm
      have hm30 : m ≤ 1000 := by
        have h1 := runH_len (z.filter fun x => !isB x)
        have h2 := List.length_filter_le (fun x => !isB x) z
        rw [← hL1, List.length_map, ← hm] at h1
        rw [HZL.out] at h2
        omega
      rw [← hm]
      clear hprop hL1 hL2 hL3 hb3 hm HA1
      go_wp2_with fail
      go_loopg [11] (m + 1) (fun k v11 wr => ∃ i : Nat, i ≤ m ∧ k + i = m + 1 ∧ v11 = .int .i64 i ∧ Below w3.heap.size w3 wr)
      case atStart => exact ⟨0, by omega, by omega, rfl, Below.refl _ _⟩
      case round =>
        obtain ⟨i, hi, hki, rfl, hbr⟩ := hrel
        have HBR := Lib.hid hbr
        by_cases hlt : i < m
        · have hiL : i < L.length := by have := HM.out; omega
          have hat := HL2.out.later hbr
          obtain ⟨hb, ho, rfl, _⟩ := hat.head (by omega)
          obtain ⟨c0, c1, c2, c3⟩ := hd_cells hat hiL
          have hx := (HL3.out _ (List.getElem_mem hiL)).later hbr
          obtain ⟨hp1, hp2⟩ := HPROP.out i hiL
          obtain ⟨x, hxe⟩ : ∃ x, x = L[i] := ⟨_, rfl⟩
          rw [← hxe] at c0 c1 c2 c3 hx hp1 hp2
          obtain ⟨ml, hml⟩ : ∃ ml, ml = x.1.mem.length := ⟨_, rfl⟩
          have hml0 : 0 < ml := by rw [hml]; exact List.length_pos_iff.2 hp2
          have HO := Lib.hid (show Calls Try.prog 13 #[.agg #[.string x.1.id, .string x.1.veh, .slice x.2.1 ml x.2.2.1, .slice x.2.2.2.1 0 x.2.2.2.2]] wr (RetB (.bool true) wr) from by
            have h := out_any x.1 x.2.1 x.2.2.2.1 x.2.2.1 x.2.2.2.2 wr hx
            rw [outB_yes (by
              obtain ⟨y, hy⟩ := List.exists_mem_of_ne_nil _ hp2
              exact ⟨y, hy, by rw [hp1]; simp⟩)] at h
            unfold hdV at h
            rw [← hml, hp1] at h
            exact h)
          rw [← hml] at c2
          rw [hp1] at c3
          simp only [List.length_nil] at c3
          have d1 : (ml == 0) = false := by simp; omega
          have d2 : ((ml : Int) == 0) = false := by simp; omega
          have n1 : (i : Int) < (m : Int) := by omega
          have n0 : (0 : Int) ≤ (i : Int) := by omega
          have HXE := Lib.hid hxe
          clear hxe hx hp1 hp2 hml hat hbr
          go_wp2_with fail
          refine Calls.mono HO.out ?_
          rintro e w4 ⟨rfl, hb4⟩
          have HB4 := Lib.hid (HBR.out.trans (hb4.mono HBR.out.size))
          have e0 := cell_later hb4 c0
          have e1 := cell_later hb4 c1
          have e2 := cell_later hb4 c2
          have e3 := cell_later hb4 c3
          clear hb4 c0 c1 c2 c3
          go_wp2_with fail
          go_roundg (m - i)
          case measure => omega
          case rel => exact ⟨i + 1, by omega, by omega, by go_num, HB4.out⟩
        · obtain rfl : i = m := by omega
          have HBW := Lib.hid (HB3.out.trans (hbr.mono HB3.out.size))
          have A2 := all_any ids l ia ra ic rc wr (HI.out.later HBW.out) (HR.out.later HBW.out) (HRA.out.later HBW.out) (HFE.out.few (by omega))
          rw [HLEN.out, ← HN.out] at A2
          have HA2 := Lib.hid A2
          clear A2 hbr
          go_wp2_with fail
          refine Calls.mono HA2.out ?_
          rintro e w5 ⟨a5, c5, L5, rfl, hL5, _, _, _, _, _, hb5⟩
          have HB5 := Lib.hid (HBW.out.trans (hb5.mono HBW.out.size))
          have hlen5 : L5.length = i := by
            have h1 := congrArg List.length (run_ids z)
            rw [List.length_map, List.length_map] at h1
            have h2 := congrArg List.length hL5
            unfold allH at h2
            rw [List.length_map, if_pos HLEN.out, ← HZ.out] at h2
            have h3 := congrArg List.length HL1.out
            rw [List.length_map] at h3
            have := HM.out
            omega
          rw [hlen5]
          clear hb5 hL5 hlen5 HA2
          go_wp2_with fail
          go_ret
          exact retB rfl HB5.out
theorem walk (W : World) (ia : Option Addr) (ic : Nat) (i : List ByteArray) (iV : ES.At W ia i) (ra : Option Addr) (rc : Nat) (r : List Rec) (rR : ER.At W ra r) (rA : RecAll W r) :
    Calls Try.prog 6 #[.slice ia i.length ic, .slice ra r.length rc] W (RetB (.bool true) W) := by
  by_cases h : FewR i r 30
  · by_cases h2 : i.length = r.length
    · exact yes i r ia ra ic rc W iV rR rA h h2
    · exact no i r ia ra ic rc W iV rR rA (.inr ⟨h, h2⟩)
  · exact no i r ia ra ic rc W iV rR rA (.inl h)
end HoldEarly
namespace HoldEarly
set_option maxRecDepth 100000 in
theorem entry (H : Type) (enc : TypeId × Value → H) (W : World) (base : Nat) (args : Array Value) (ds : List (DataW H)) (p : List MemPlace)
    (hval : ∀ (j : Nat) t v, Try.f6.params[j]? = some t → args[j]? = some v → Value.okWide Try.prog W .any base t v)
    (hA : DataW.TrodAll enc Try.prog W 0 (fun _ => true) true Try.f6.params.toList args.toList ds p) :
    Calls Try.prog 6 args W (RetB (.bool true) W) := by
  rw [Try.params6] at hA hval
  obtain ⟨v0, vs0, d0, ds0, p0, q0, hargs, rfl, rfl, h0, r0⟩ := trodAll_cons hA
  obtain ⟨v1, vs1, d1, ds1, p1, q1, rfl, rfl, rfl, h1, r1⟩ := trodAll_cons r0
  obtain ⟨rfl, rfl, rfl⟩ := trodAll_nil r1
  obtain rfl : args = #[v0, v1] := by cases args; simp_all
  obtain ⟨ia, ic, i, rfl, iV⟩ := open_strs (hval 0 22 v0 rfl rfl) h0
  obtain ⟨ra, rc, r, rfl, rR, rA⟩ := open_recs (hval 1 23 v1 rfl rfl) h1
  exact walk W ia ic i iV ra rc r rR rA
end HoldEarly
/-! The step from the walk to the row of HoldEarly. -/
namespace HoldEarly
set_option maxRecDepth 100000 in
theorem lifted (os : Os) (started : os.Started) (H : Type) (enc : TypeId × Value → H) :
    ReturnsInHanded {} Try.checked os 6 .any (Rows.holdEarlySpec.pre6 enc Try.prog Try.f6 Rows.holdEarlyRow.domain false) (Rows.holdEarlySpec.post enc Try.prog Try.f6 false true false false) := by
  refine returnsInHanded_of_change (C := Try.checked) own started (by kernel_rfl) Try.func6
    (ChangeSpec.witness6 (enc := enc) (C := Try.checked) false ⟨#[], #[.slice none 0 0, .slice none 0 0], []⟩ 8 (by kernel_rfl) (by kernel_rfl) (by kernel_rfl) (by kernel_rfl)) ?_
  intro W base args ds gs before hval0 hW hcnd _
  have hval : ∀ (j : Nat) t v, Try.f6.params[j]? = some t → args[j]? = some v → Value.okWide Try.prog W .any base t v := hval0
  have hW' := hW
  obtain ⟨p, q, hA0, hV, rfl, hfz, hnd⟩ := hW
  have hA : DataW.TrodAll enc Try.prog W 0 (fun _ => true) true Try.f6.params.toList args.toList ds p := hA0
  obtain ⟨rfl, rfl⟩ := trodVars_none hV
  have hlen := trodAll_len _ _ _ _ hA
  obtain ⟨d0, d1, rfl⟩ : ∃ d0 d1, ds = [d0, d1] := by
    rw [Try.params6] at hlen
    exact list2 hlen
  refine (entry H enc W base args [d0, d1] p hval hA).mono fun e W' ⟨he, bel⟩ => ?_
  subst he
  exact ⟨_, rfl, _, _, _, [], _, [], hW', trodAll_mk1 (shut_bool Try.underlying4 _), readback laidOut _ _ _ _ (by rw [Try.params6]; exact of_decide_eq_true (by kernel_rfl)) hA bel, rfl, bel.frame _, fun h => by cases h⟩

theorem over : Rows.holdEarlyRow.holds Try.pinned (OpenSpec.ofChange Rows.holdEarlySpec) :=
  OpenClaim.holds_of_wide 6 Try.f6 rfl rfl rfl rfl rfl rfl rfl ⟨rfl, rfl, rfl, rfl, rfl⟩ rfl rfl rfl rfl rfl (by kernel_rfl) Try.func6 (by kernel_rfl)
    (of_decide_eq_true (by kernel_rfl)) (by unfold Func.isWrapper; first | (rw [if_pos (by decide +kernel)]; kernel_rfl) | (rw [if_neg (by decide +kernel)]; exact ⟨rfl, rfl⟩))
    (fun os started H enc _ => lifted os started H enc)

/-- THE STATEMENT -/
theorem proved : Rows.HoldEarlySaid := over
end HoldEarly
#print axioms HoldEarly.proved
end Go.Proofs.Ytgoomcnaemfjcaa
