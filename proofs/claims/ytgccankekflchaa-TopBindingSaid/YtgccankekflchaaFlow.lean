/- A region that draws its order, walked once: each operation is shown once, for every set of operations that may have come before it; what is known of the world is an invariant over the set of operations that are done. -/
import Derived.Orders
import Derived.Below
namespace Go.Proofs.Ytgccankekflchaa
open Go

/-- an assignment of ghosts (what operations have left whose value hangs on the order), with one turned -/
def updG (β : Nat → Value) (k : Nat) (b : Value) : Nat → Value := fun i => if i = k then b else β i
theorem updG_self (β : Nat → Value) (k : Nat) : updG β k (β k) = β := by
  funext i
  unfold updG
  split
  · rename_i h; rw [h]
  · rfl
theorem updG_at (β : Nat → Value) (k : Nat) (b : Value) : updG β k b k = b := by unfold updG; rw [if_pos rfl]
theorem updG_ne (β : Nat → Value) {k i : Nat} (b : Value) (h : i ≠ k) : updG β k b i = β i := by unfold updG; rw [if_neg h]
def setL (L : Nat → Bool) (k : Nat) : Nat → Bool := fun i => if i = k then true else L i
theorem setL_at (L : Nat → Bool) (k : Nat) : setL L k k = true := by unfold setL; rw [if_pos rfl]
theorem setL_ne (L : Nat → Bool) {k i : Nat} (h : i ≠ k) : setL L k i = L i := by unfold setL; rw [if_neg h]

section
variable {P : Program} {ops : Array Oper}

/-- operation i waits for operation j -/
def preOf (ops : Array Oper) (j i : Nat) : Bool := match ops[i]? with | some o => o.after.any (fun e => Region.binds .any e && e.on == j) | none => false
/-- operation j waits for operation k, or for one that does .. -/
def reach (ops : Array Oper) : Nat → Nat → Nat → Bool
  | 0, k, j => k == j
  | f + 1, k, j => k == j || (match ops[j]? with | some o => o.after.any (fun e => Region.binds .any e && reach ops f k e.on) | none => false)
def flowOk (ops : Array Oper) : Bool :=
  Region.noSelect ops &&
  (List.range ops.size).all fun i => match ops[i]? with
    | none => true
    | some o => (o.after.all fun e => !Region.binds .any e || decide (e.on < i)) &&
      (List.range ops.size).all fun j => match ops[j]? with
        | none => true
        | some oj => match oj.dst with
          | none => true
          | some t => (i == j || o.dst != some t) && (!(o.looksAt ops).contains t || (decide (j < i) && preOf ops j i) || (decide (i < j) && (preOf ops i j || reach ops ops.size i j)))

def dstOf (ops : Array Oper) (i : Nat) : Option Tmp := (ops[i]?).bind (·.dst)
theorem dstOf_some {i : Nat} {o : Oper} (h : ops[i]? = some o) : dstOf ops i = o.dst := by unfold dstOf; rw [h]; rfl

theorem flowOk_sel (h : flowOk ops = true) : Region.noSelect ops = true := by
  unfold flowOk at h
  rw [Bool.and_eq_true] at h
  exact h.1
theorem flowOk_row (h : flowOk ops = true) {i : Nat} {o : Oper} (hi : ops[i]? = some o) :
    (∀ e ∈ o.after, Region.binds .any e = true → e.on < i) ∧ ∀ j oj t, ops[j]? = some oj → oj.dst = some t → (i ≠ j → o.dst ≠ some t) ∧ (t ∈ o.looksAt ops → (j < i ∧ preOf ops j i = true) ∨ (i < j ∧ (preOf ops i j = true ∨ reach ops ops.size i j = true))) := by
  unfold flowOk at h
  rw [Bool.and_eq_true] at h
  have h1 := List.all_eq_true.1 h.2 i (List.mem_range.2 (Array.getElem?_eq_some_iff.1 hi).1)
  simp only [hi, Bool.and_eq_true] at h1
  refine ⟨fun e he hb => ?_, fun j oj t hj ht => ?_⟩
  · have := Array.all_eq_true_iff_forall_mem.1 h1.1 e he
    simp only [hb, Bool.not_true, Bool.false_or, decide_eq_true_eq] at this
    exact this
  · have h2 := List.all_eq_true.1 h1.2 j (List.mem_range.2 (Array.getElem?_eq_some_iff.1 hj).1)
    simp only [hj, ht, Bool.and_eq_true] at h2
    refine ⟨fun hne hd => ?_, fun hm => ?_⟩
    · rcases Bool.or_eq_true _ _ |>.mp h2.1 with h3 | h3
      · exact hne (by simpa using h3)
      · rw [hd] at h3; simp at h3
    · rcases Bool.or_eq_true _ _ |>.mp h2.2 with h3 | h3
      · rcases Bool.or_eq_true _ _ |>.mp h3 with h3 | h3
        · rw [Bool.not_eq_true'] at h3
          have := List.contains_iff_mem.2 hm
          rw [h3] at this
          cases this
        · rw [Bool.and_eq_true] at h3
          exact .inl ⟨of_decide_eq_true h3.1, h3.2⟩
      · rw [Bool.and_eq_true] at h3
        exact .inr ⟨of_decide_eq_true h3.1, Bool.or_eq_true _ _ |>.mp h3.2⟩

/-! ### acts -/
theorem put_get_ne {a : Act} {d : Option Tmp} {v : Value} {t : Nat} (h : d ≠ some t) : (a.put d v).tmps[t]? = a.tmps[t]? := by
  cases d with
  | none => rfl
  | some d =>
    have hne : d ≠ t := fun e => h (by rw [e])
    simp [Act.put, Array.getElem?_setIfInBounds_ne hne]
theorem put_get_at {a : Act} {v : Value} {t : Nat} : (a.put (some t) v).tmps[t]? = (a.tmps.setIfInBounds t v)[t]? := rfl
theorem put_size {a : Act} {d : Option Tmp} {v : Value} : (a.put d v).tmps.size = a.tmps.size := by
  cases d <;> simp [Act.put]
theorem set_get {x y : Array Value} (h : x.size = y.size) (t : Nat) (v : Value) : (x.setIfInBounds t v)[t]? = (y.setIfInBounds t v)[t]? := by
  simp [Array.getElem?_setIfInBounds, h]
theorem put_same {a a' : Act} {d : Option Tmp} {v v' : Value} (h : a.put d v = a.put d v') (hs : a'.tmps.size = a.tmps.size) : a'.put d v = a'.put d v' := by
  cases d with
  | none => rfl
  | some d =>
    rcases Nat.lt_or_ge d a.tmps.size with hd | hd
    · have h1 := congrArg (fun x : Act => x.tmps[d]?) h
      simp [Act.put, hd] at h1
      rw [h1]
    · simp [Act.put, Array.setIfInBounds, hs, Nat.not_lt.2 hd]

def puts (dst : Nat → Option Tmp) (v : Nat → Value) (L : Nat → Bool) (a : Act) : Nat → Act
  | 0 => a
  | n + 1 => if L n then (puts dst v L a n).put (dst n) (v n) else puts dst v L a n
variable {dst : Nat → Option Tmp} {v : Nat → Value} {L : Nat → Bool} {a : Act}
theorem puts_size : ∀ n, (puts dst v L a n).tmps.size = a.tmps.size
  | 0 => rfl
  | n + 1 => by
    unfold puts
    split
    · rw [put_size]; exact puts_size n
    · exact puts_size n
theorem puts_defers : ∀ n, (puts dst v L a n).defers = a.defers
  | 0 => rfl
  | n + 1 => by
    unfold puts
    split
    · have := puts_defers n
      cases h : dst n <;> simp [Act.put, this]
    · exact puts_defers n
theorem puts_out {t : Nat} : ∀ n, (∀ j, j < n → dst j ≠ some t) → (puts dst v L a n).tmps[t]? = a.tmps[t]?
  | 0, _ => rfl
  | n + 1, h => by
    unfold puts
    split
    · rw [put_get_ne (h n (by omega))]; exact puts_out n fun j hj => h j (by omega)
    · exact puts_out n fun j hj => h j (by omega)
theorem puts_in {t j : Nat} (hL : L j = true) (hd : dst j = some t) : ∀ n, j < n → (∀ k, k < n → k ≠ j → dst k ≠ some t) → (puts dst v L a n).tmps[t]? = (a.tmps.setIfInBounds t (v j))[t]?
  | 0, h, _ => absurd h (by omega)
  | n + 1, h, hk => by
    unfold puts
    by_cases e : j = n
    · subst e
      rw [if_pos hL, hd, put_get_at]
      exact set_get (puts_size _) _ _
    · have ih := puts_in hL hd n (by omega) fun k h1 h2 => hk k (by omega) h2
      split
      · rw [put_get_ne (hk n (by omega) (fun e' => e e'.symm))]; exact ih
      · exact ih
theorem puts_un {t j : Nat} (hL : L j = false) : ∀ n, (∀ k, k < n → k ≠ j → dst k ≠ some t) → (puts dst v L a n).tmps[t]? = a.tmps[t]?
  | 0, _ => rfl
  | n + 1, hk => by
    have ih := puts_un hL n fun k h1 h2 => hk k (by omega) h2
    unfold puts
    split
    · rename_i hn
      rw [put_get_ne (hk n (by omega) (fun e' => by rw [e', hL] at hn; cases hn))]
      exact ih
    · exact ih
theorem puts_congr {v' : Nat → Value} {L' : Nat → Bool} : ∀ n, (∀ j, j < n → L j = L' j) → (∀ j, j < n → L j = true → v j = v' j) → puts dst v L a n = puts dst v' L' a n
  | 0, _, _ => rfl
  | n + 1, h, k => by
    unfold puts
    rw [puts_congr n (fun j hj => h j (by omega)) (fun j hj => k j (by omega)), ← h n (by omega)]
    split
    · rename_i hl; rw [k n (by omega) hl]
    · rfl
theorem puts_set {i : Nat} (hL : L i = false) (hdist : ∀ k t, k ≠ i → dst i = some t → dst k ≠ some t) : ∀ n, i < n → puts dst v (setL L i) a n = (puts dst v L a n).put (dst i) (v i)
  | 0, h => absurd h (by omega)
  | n + 1, h => by
    unfold puts
    by_cases e : i = n
    · subst e
      rw [setL_at, if_pos rfl, hL]
      simp only [Bool.false_eq_true, if_false]
      congr 1
      exact puts_congr _ (fun j hj => setL_ne _ (by omega)) (fun _ _ _ => rfl)
    · rw [setL_ne _ (fun e' => e e'.symm), puts_set hL hdist n (by omega)]
      split
      · rw [Act.put_comm]
        intro d hd
        exact hdist n d (fun e' => e e'.symm) hd
      · rfl

/-! ### the rule -/
abbrev Inv0 := (Nat → Value) → (Nat → Bool) → World → Prop
/-- the operations of L are done, and i may come -/
structure At (ops : Array Oper) (L : Nat → Bool) (i : Nat) : Prop where
  un : L i = false
  pre : ∀ j, preOf ops j i = true → L j = true
  down : ∀ k j, L k = true → k < ops.size → preOf ops j k = true → L j = true
  out : ∀ j, ops.size ≤ j → L j = true
/-- what is to be shown of operation i: its value, a function of the ghosts of operations that it waits for; and that it keeps the invariant -/
def Ob (P : Program) (ops : Array Oper) (I : Inv0) (i : Nat) (o : Oper) (A : (Nat → Value) → Act) (v : (Nat → Value) → Value) : Prop :=
  (∀ β k b, reach ops ops.size k i = false → v (updG β k b) = v β) ∧
  ∀ β L w, I β L w → At ops L i →
    (Region.wanted o (yielded ops (A β).tmps) = true ∧ o.wp P (A β) w (fun a' w' => ∃ b, a' = (A β).put o.dst (v (updG β i b)) ∧ I (updG β i b) (setL L i) w') (fun _ _ _ => False)) ∨
    (Region.wanted o (yielded ops (A β).tmps) = false ∧ ∃ b, undef = v (updG β i b) ∧ I (updG β i b) (setL L i) w)
/-- operation by operation, in the text's order -/
def Flow (P : Program) (ops : Array Oper) (I : Inv0) (K : ((Nat → Value) → Act) → Prop) : List Oper → Nat → ((Nat → Value) → Act) → Prop
  | [], _, A => K A
  | o :: l, i, A => ∃ v, Ob P ops I i o A v ∧ Flow P ops I K l (i + 1) (fun β => (A β).put o.dst (v β))

def from' (ops : Array Oper) (v : Nat → Value) (a : Act) (i : Nat) : Nat → Act
  | 0 => a
  | c + 1 => (from' ops v a i c).put (dstOf ops (i + c)) (v (i + c))
theorem from_left (v : Nat → Value) (a : Act) (i : Nat) : ∀ c, from' ops v (a.put (dstOf ops i) (v i)) (i + 1) c = from' ops v a i (c + 1)
  | 0 => rfl
  | c + 1 => by
    show (from' ops v (a.put (dstOf ops i) (v i)) (i + 1) c).put (dstOf ops (i + 1 + c)) (v (i + 1 + c)) = (from' ops v a i (c + 1)).put (dstOf ops (i + (c + 1))) (v (i + (c + 1)))
    rw [from_left v a i c, show i + 1 + c = i + (c + 1) by omega]
theorem from_congr {v v' : Nat → Value} (a : Act) (i : Nat) (h : ∀ j, i ≤ j → v j = v' j) : ∀ c, from' ops v a i c = from' ops v' a i c
  | 0 => rfl
  | c + 1 => by unfold from'; rw [from_congr a i h c, h _ (by omega)]
theorem from_puts (v : Nat → Value) (a : Act) : ∀ c, from' ops v a 0 c = puts (dstOf ops) v (fun _ => true) a c
  | 0 => rfl
  | c + 1 => by unfold from' puts; rw [if_pos rfl, from_puts v a c, Nat.zero_add]

theorem flow_vals {I : Inv0} {K : ((Nat → Value) → Act) → Prop} : ∀ (l : List Oper) (i : Nat) (A : (Nat → Value) → Act), ops.toList.drop i = l → Flow P ops I K l i A →
    ∃ val : Nat → (Nat → Value) → Value, (∀ c o, l[c]? = some o → Ob P ops I (i + c) o (fun β => from' ops (fun j => val j β) (A β) i c) (val (i + c))) ∧ K (fun β => from' ops (fun j => val j β) (A β) i l.length)
  | [], i, A, _, h => ⟨fun _ _ => undef, fun c o hc => by simp at hc, h⟩
  | o :: l, i, A, hl, h => by
    obtain ⟨v, hob, hr⟩ := h
    have hi : ops[i]? = some o := by
      have : (ops.toList.drop i)[0]? = some o := by rw [hl]; rfl
      rw [List.getElem?_drop] at this
      simpa using this
    have hl' : ops.toList.drop (i + 1) = l := by
      rw [← List.drop_drop, hl]
      rfl
    obtain ⟨val, h1, h2⟩ := flow_vals l (i + 1) _ hl' hr
    have hd : o.dst = dstOf ops i := (dstOf_some hi).symm
    have key : ∀ β c, from' ops (fun j => val j β) ((A β).put o.dst (v β)) (i + 1) c = from' ops (fun j => (if j = i then v else val j) β) (A β) i (c + 1) := fun β c => by
      rw [← from_left, hd]
      simp only [if_true]
      exact from_congr _ _ (fun j hj => by rw [if_neg (by omega)]) c
    refine ⟨fun j => if j = i then v else val j, fun c o' hc => ?_, ?_⟩
    · cases c with
      | zero =>
        simp at hc
        subst hc
        simpa [from'] using hob
      | succ c =>
        have h3 := h1 c o' (by simpa using hc)
        rw [show i + (c + 1) = i + 1 + c by omega]
        have e0 : (fun j => if j = i then v else val j) (i + 1 + c) = val (i + 1 + c) := if_neg (by omega)
        rw [e0]
        have e : (fun β => from' ops (fun j => val j β) ((A β).put o.dst (v β)) (i + 1) c) = (fun β => from' ops (fun j => (if j = i then v else val j) β) (A β) i (c + 1)) := funext fun β => key β c
        rw [e] at h3
        exact h3
    · have e : (fun β => from' ops (fun j => val j β) ((A β).put o.dst (v β)) (i + 1) l.length) = (fun β => from' ops (fun j => (if j = i then v else val j) β) (A β) i (l.length + 1)) := funext fun β => key β _
      rw [e] at h2
      exact h2

theorem reach_down {L : Nat → Bool} (hout : ∀ j, ops.size ≤ j → L j = true) (hdc : ∀ i j, L i = true → i < ops.size → preOf ops j i = true → L j = true) :
    ∀ f k j, L j = true → reach ops f k j = true → L k = true
  | 0, k, j, hj, h => by
    have : k = j := by simpa [reach] using h
    rw [this]; exact hj
  | f + 1, k, j, hj, h => by
    unfold reach at h
    rcases Bool.or_eq_true _ _ |>.mp h with h | h
    · have : k = j := by simpa using h
      rw [this]; exact hj
    · cases ho : ops[j]? with
      | none => rw [ho] at h; cases h
      | some o =>
        rw [ho] at h
        obtain ⟨e, he, hb⟩ := Array.any_eq_true'.1 h
        rw [Bool.and_eq_true] at hb
        refine reach_down hout hdc f k e.on (hdc j e.on hj (Array.getElem?_eq_some_iff.1 ho).1 ?_) hb.2
        unfold preOf
        rw [ho]
        exact Array.any_eq_true'.2 ⟨e, he, by simp [hb.1]⟩

theorem eval_of_get {a a' : Act} {t : Nat} (h : a.tmps[t]? = a'.tmps[t]?) : a.eval (.tmp t) = a'.eval (.tmp t) := by
  show a.tmps.getD t undef = a'.tmps.getD t undef
  rw [Array.getD_eq_getD_getElem?, Array.getD_eq_getD_getElem?, h]
theorem wanted_congr (o : Oper) {a a' : Act} (h : ∀ t ∈ o.looksAt ops, a.tmps[t]? = a'.tmps[t]?) : Region.wanted o (yielded ops a.tmps) = Region.wanted o (yielded ops a'.tmps) := by
  unfold Region.wanted
  cases hg : o.guard with
  | none => rfl
  | some gw =>
    obtain ⟨g, want⟩ := gw
    have hy : yielded ops a.tmps g = yielded ops a'.tmps g := by
      unfold yielded
      cases ht : (ops[g]?).bind (·.dst) with
      | none => rfl
      | some t =>
        have : a.tmps[t]? = a'.tmps[t]? := h t (by simp [Oper.looksAt, hg, ht])
        simp only [Option.bind_some, this]
    simp only [hy]

/-- the region -/
theorem wpAny_flow {Q : Exit → Act → World → Prop} {a : Act} {w : World} (I : Inv0) (hok : flowOk ops = true)
    (β0 : Nat → Value) (h0 : I β0 (fun i => decide (ops.size ≤ i)) { w with drawn := w.drawn + 1 })
    (h : Flow P ops I (fun A => ∀ β w', I β (fun _ => true) w' → Q .normal (A β) w') ops.toList 0 (fun _ => a)) : wpAny P .any ops Q ops.size (Array.replicate ops.size false) a { w with drawn := w.drawn + 1 } := by
  obtain ⟨val, hob, hend⟩ := flow_vals ops.toList 0 _ (by simp) h
  have hsel := Region.noSelect_spec (flowOk_sel hok)
  have hob' : ∀ i o, ops[i]? = some o → Ob P ops I i o (fun β => puts (dstOf ops) (fun j => val j β) (fun _ => true) a i) (val i) := fun i o hi => by
    have := hob i o (by simpa using hi)
    simp only [Nat.zero_add, from_puts] at this
    exact this
  simp only [from_puts, Array.length_toList] at hend
  have hdist : ∀ i k t, k ≠ i → dstOf ops i = some t → dstOf ops k ≠ some t := fun i k t hne hi hk => by
    unfold dstOf at hi hk
    cases hoi : ops[i]? with
    | none => rw [hoi] at hi; cases hi
    | some oi =>
      cases hok' : ops[k]? with
      | none => rw [hok'] at hk; cases hk
      | some ok =>
        rw [hoi] at hi
        rw [hok'] at hk
        exact ((flowOk_row hok hok').2 i oi t hoi hi).1 hne hk
  suffices hmain : ∀ (fuel : Nat) (listed : Array Bool) (β : Nat → Value) (w' : World), listed.size = ops.size → (List.range ops.size).countP (fun i => !listed.getD i true) ≤ fuel →
      (∀ i j, listed.getD i true = true → i < ops.size → preOf ops j i = true → listed.getD j true = true) →
      I β (fun i => listed.getD i true) w' → wpAny P .any ops Q fuel listed (puts (dstOf ops) (fun j => val j β) (fun i => listed.getD i true) a ops.size) w' by
    have e0 : (fun i => (Array.replicate ops.size false).getD i true) = (fun i => decide (ops.size ≤ i)) := funext fun i => by
      rw [Array.getD_eq_getD_getElem?, Array.getElem?_replicate]
      by_cases hi : i < ops.size
      · rw [if_pos hi]; simp; omega
      · rw [if_neg hi]; simp; omega
    have ea : ∀ n, n ≤ ops.size → puts (dstOf ops) (fun j => val j β0) (fun i => decide (ops.size ≤ i)) a n = a := fun n => by
      induction n with
      | zero => intro _; rfl
      | succ n ih =>
        intro hn
        unfold puts
        rw [if_neg (by simp; omega)]
        exact ih (by omega)
    have := hmain ops.size (Array.replicate ops.size false) β0 _ (by simp) (by
      have := List.countP_le_length (p := fun i => !(Array.replicate ops.size false).getD i true) (l := List.range ops.size)
      simpa using this) (fun i j hi hlt _ => by
        have := congrFun e0 i
        rw [hi] at this
        have := of_decide_eq_true this.symm
        omega) (by rw [e0]; exact h0)
    rw [e0, ea _ (Nat.le_refl _)] at this
    exact this
  intro fuel
  induction fuel with
  | zero =>
    intro listed β w' hsz hcnt _ hI
    have hall : ∀ i, listed.getD i true = true := fun i => by
      rcases Nat.lt_or_ge i ops.size with hi | hi
      · have h1 := List.countP_eq_zero.1 (Nat.le_zero.1 hcnt) i (List.mem_range.2 hi)
        simpa using h1
      · rw [Array.getD_eq_getD_getElem?, Array.getElem?_eq_none (by omega)]; rfl
    refine ⟨?_, ?_⟩
    · rw [List.eq_nil_iff_forall_not_mem]
      intro i hi
      have := (mem_ready.1 hi).1
      rw [hall i] at this
      cases this
    · have e : (fun i => listed.getD i true) = fun _ => true := funext hall
      rw [e] at hI ⊢
      exact hend β w' hI
  | succ fuel ih =>
    intro listed β w' hsz hcnt hdc hI
    refine ⟨fun hnil => ?_, fun i hi => ?_⟩
    · have hall : ∀ i, listed.getD i true = true := fun i => by
        induction i using Nat.strongRecOn with
        | _ i ihs =>
          cases hl : listed.getD i true with
          | true => rfl
          | false =>
            rcases Nat.lt_or_ge i ops.size with hlt | hge
            · have hoi : ops[i]? = some ops[i] := Array.getElem?_eq_getElem hlt
              have : i ∈ Region.ready .any ops listed := mem_ready.2 ⟨hl, ops[i], hoi, fun e he hb => by
                have h1 := ihs e.on ((flowOk_row hok hoi).1 e he hb)
                have h2 : e.on < listed.size := by have := (flowOk_row hok hoi).1 e he hb; omega
                rw [Array.getD_eq_getD_getElem?, Array.getElem?_eq_getElem h2] at h1 ⊢
                exact h1⟩
              rw [hnil] at this
              cases this
            · rw [Array.getD_eq_getD_getElem?, Array.getElem?_eq_none (by omega)] at hl
              cases hl
      have e : (fun i => listed.getD i true) = fun _ => true := funext hall
      rw [e] at hI ⊢
      exact hend β w' hI
    · obtain ⟨hun, o, ho, hall⟩ := mem_ready.1 hi
      have hlt : i < ops.size := (Array.getElem?_eq_some_iff.1 ho).1
      obtain ⟨hindep, hstep⟩ := hob' i o ho
      have hpre : ∀ j, preOf ops j i = true → listed.getD j true = true := fun j hj => by
        unfold preOf at hj
        rw [ho] at hj
        obtain ⟨e, he, hb⟩ := Array.any_eq_true'.1 hj
        simp only [Bool.and_eq_true, beq_iff_eq] at hb
        have h1 := hall e he hb.1
        rw [hb.2] at h1
        have h2 : j < listed.size := by
          rcases Nat.lt_or_ge j listed.size with h' | h'
          · exact h'
          · rw [Array.getD_eq_getD_getElem?, Array.getElem?_eq_none h'] at h1; cases h1
        rw [Array.getD_eq_getD_getElem?, Array.getElem?_eq_getElem h2] at h1 ⊢
        exact h1
      have hlook : ∀ t ∈ o.looksAt ops, (puts (dstOf ops) (fun j => val j β) (fun i => listed.getD i true) a ops.size).tmps[t]? = (puts (dstOf ops) (fun j => val j β) (fun _ => true) a i).tmps[t]? := fun t ht => by
        by_cases hex : ∃ j, j < ops.size ∧ dstOf ops j = some t
        · obtain ⟨j, hj, hdj⟩ := hex
          have hoj : ops[j]? = some ops[j] := Array.getElem?_eq_getElem hj
          have hd' := hdj
          rw [dstOf_some hoj] at hd'
          rcases ((flowOk_row hok ho).2 j ops[j] t hoj hd').2 ht with ⟨h1, h2⟩ | ⟨h1, h2⟩
          · rw [puts_in (hpre j h2) hdj _ hj (fun k _ hkj => hdist j k t hkj hdj), puts_in rfl hdj _ h1 (fun k _ hkj => hdist j k t hkj hdj)]
          · have hLj : listed.getD j true = false := by
              cases hLj : listed.getD j true with
              | false => rfl
              | true =>
                have hLi : listed.getD i true = true := by
                  rcases h2 with h2 | h2
                  · exact hdc j i hLj hj h2
                  · exact reach_down (L := fun j => listed.getD j true) (fun j hj => by
                      show listed.getD j true = true
                      rw [Array.getD_eq_getD_getElem?, Array.getElem?_eq_none (by omega)]; rfl) (fun i j h1 h2 h3 => hdc i j h1 h2 h3) _ _ _ hLj h2
                rw [hun] at hLi
                cases hLi
            rw [puts_un (dst := dstOf ops) (v := fun j => val j β) (L := fun i => listed.getD i true) (a := a) (t := t) hLj _ (fun k _ hkj => hdist j k t hkj hdj), puts_out (dst := dstOf ops) (v := fun j => val j β) (L := fun _ => true) (a := a) (t := t) i (fun k hk hd => by
              by_cases e : k = j
              · omega
              · exact hdist j k t e hdj hd)]
        · rw [puts_out _ (fun j hj hd => hex ⟨j, hj, hd⟩), puts_out _ (fun j hj hd => hex ⟨j, by omega, hd⟩)]
      have hexec : execOp (puts (dstOf ops) (fun j => val j β) (fun i => listed.getD i true) a ops.size).eval o = execOp (puts (dstOf ops) (fun j => val j β) (fun _ => true) a i).eval o :=
        execOp_congr o (fun cs b => hsel i o cs b ho) fun x hx => by
          cases x with
          | tmp t => exact eval_of_get (hlook t (List.mem_append_left _ (List.mem_filterMap.2 ⟨.tmp t, by simpa using hx, rfl⟩)))
          | _ => rfl
      have hwant := wanted_congr o hlook
      have hsz2 : (puts (dstOf ops) (fun j => val j β) (fun i => listed.getD i true) a ops.size).tmps.size = (puts (dstOf ops) (fun j => val j β) (fun _ => true) a i).tmps.size := by
        rw [puts_size, puts_size]
      have eL : (fun j => (listed.setIfInBounds i true).getD j true) = setL (fun j => listed.getD j true) i := funext fun j => by
        by_cases hji : j = i
        · subst hji
          rw [setL_at, Array.getD_eq_getD_getElem?]
          simp [hsz, hlt]
        · rw [setL_ne _ hji, getD_set_ne true (fun e => hji e.symm)]
      have hdc' : ∀ k j, (listed.setIfInBounds i true).getD k true = true → k < ops.size → preOf ops j k = true → (listed.setIfInBounds i true).getD j true = true := fun k j hk hks hp => by
        have e1 := congrFun eL k
        have e2 := congrFun eL j
        rw [e1] at hk
        rw [e2]
        by_cases hji : j = i
        · rw [hji, setL_at]
        · rw [setL_ne _ hji]
          by_cases hki : k = i
          · subst hki; exact hpre j hp
          · rw [setL_ne _ hki] at hk; exact hdc k j hk hks hp
      have hcnt' : (List.range ops.size).countP (fun j => !(listed.setIfInBounds i true).getD j true) ≤ fuel := by
        have hlt2 : (List.range ops.size).countP (fun j => !(listed.setIfInBounds i true).getD j true) < (List.range ops.size).countP (fun j => !listed.getD j true) := by
          have hpr : ∀ j, (!(listed.setIfInBounds i true).getD j true) = (!(listed.getD j true) && decide (j ≠ i)) := fun j => by
            have e1 := congrFun eL j
            rw [e1]
            by_cases hji : j = i
            · subst hji; simp [setL_at]
            · simp [setL_ne _ hji, hji]
          simp only [hpr]
          obtain ⟨l1, l2, hl⟩ := List.append_of_mem (List.mem_range.2 hlt)
          rw [hl, List.countP_append, List.countP_append, List.countP_cons, List.countP_cons]
          have m1 := List.countP_mono_left (l := l1) (p := fun j => !(listed.getD j true) && decide (j ≠ i)) (q := fun j => !listed.getD j true) (fun x _ hx => by simp only [Bool.and_eq_true] at hx; exact hx.1)
          have m2 := List.countP_mono_left (l := l2) (p := fun j => !(listed.getD j true) && decide (j ≠ i)) (q := fun j => !listed.getD j true) (fun x _ hx => by simp only [Bool.and_eq_true] at hx; exact hx.1)
          have e1 : (if (!(listed.getD i true) && decide (i ≠ i)) = true then 1 else 0) = 0 := by simp
          have e2 : (if (!listed.getD i true) = true then 1 else 0) = 1 := by rw [hun]; rfl
          rw [e1, e2]
          omega
        omega
      have done : ∀ b w2 v', (puts (dstOf ops) (fun j => val j β) (fun _ => true) a i).put o.dst v' = (puts (dstOf ops) (fun j => val j β) (fun _ => true) a i).put o.dst (val i (updG β i b)) →
          I (updG β i b) (setL (fun i => listed.getD i true) i) w2 →
          wpAny P .any ops Q fuel (listed.setIfInBounds i true) ((puts (dstOf ops) (fun j => val j β) (fun i => listed.getD i true) a ops.size).put o.dst v') w2 := fun b w2 v' hv hI' => by
        have h1 := ih (listed.setIfInBounds i true) (updG β i b) w2 (by simp [hsz]) hcnt' hdc' (by rw [eL]; exact hI')
        rw [eL] at h1
        rw [put_same hv hsz2, ← dstOf_some ho]
        rw [puts_set hun (fun k t => hdist i k t) _ hlt] at h1
        rw [puts_congr (v' := fun j => val j (updG β i b)) (L' := fun i => listed.getD i true) _ (fun _ _ => rfl) (fun j hj hLj => ?_)]
        · exact h1
        · obtain ⟨hin, _⟩ := hob' j ops[j] (Array.getElem?_eq_getElem hj)
          refine (hin β i b ?_).symm
          cases hr : reach ops ops.size i j with
          | false => rfl
          | true =>
            have := reach_down (L := fun j => listed.getD j true) (fun j hj => by
              show listed.getD j true = true
              rw [Array.getD_eq_getD_getElem?, Array.getElem?_eq_none (by omega)]; rfl) (fun i j h1 h2 h3 => hdc i j h1 h2 h3) _ _ _ hLj hr
            rw [hun] at this
            cases this
      have hs := hstep β (fun j => listed.getD j true) w' hI ⟨hun, hpre, hdc, fun j hj => by
        show listed.getD j true = true
        rw [Array.getD_eq_getD_getElem?, Array.getElem?_eq_none (by omega)]; rfl⟩
      unfold wpOp
      rw [ho]
      dsimp only
      rw [hwant]
      rcases hs with ⟨hw, hwp⟩ | ⟨hw, b, hb, hI'⟩
      · rw [if_pos hw]
        refine .inl ?_
        unfold Oper.wp at hwp ⊢
        rw [hexec]
        generalize (execOp (puts (dstOf ops) (fun j => val j β) (fun _ => true) a i).eval o).run P w' = r at hwp ⊢
        cases r with
        | ok n w2 =>
          cases n <;> simp only [Oper.upon] at hwp ⊢
          case value u =>
            obtain ⟨b, hb, hI'⟩ := hwp
            exact done b _ _ hb hI'
          case skip =>
            obtain ⟨b, hb, hI'⟩ := hwp
            exact done b _ _ hb hI'
          case defer d =>
            obtain ⟨b, hb, _⟩ := hwp
            exfalso
            have h1 := congrArg (fun x : Act => x.defers.length) hb
            rw [← Act.put_defers] at h1
            cases hd : o.dst <;> rw [hd] at h1 <;> simp [Act.put] at h1
          case enter f args =>
            refine Calls.mono hwp fun e w3 he => ?_
            cases e with
            | returned u =>
              obtain ⟨b, hb, hI'⟩ := he
              exact done b _ _ hb hI'
            | panicked c => exact he.elim
            | outgrown => obtain ⟨_, _, hf⟩ := he; exact hf.elim
          case row row args =>
            refine Rows.mono hwp fun u w3 he => ?_
            obtain ⟨b, hb, hI'⟩ := he
            exact done b _ _ hb hI'
        | halt x w2 => cases x <;> simp only [Oper.upon] at hwp ⊢
      · rw [hw]
        simp only [Bool.false_eq_true, if_false]
        exact done b _ _ (by rw [hb]) hI'

/-! ### a region whose last operation writes -/
theorem wp_flow {id : Nat} {Q : Exit → Act → World → Prop} {a : Act} {w : World} (I : Inv0) (hm : P.follows .mixedOrders = true) (hok : flowOk ops = true)
    (β0 : Nat → Value) (h0 : I β0 (fun i => decide (ops.size ≤ i)) { w with drawn := w.drawn + 1 })
    (h : Flow P ops I (fun A => ∀ β w', I β (fun _ => true) w' → Q .normal (A β) w') ops.toList 0 (fun _ => a)) : (Code.region id ops true).wp P Q a w :=
  wp_region_any hm (wpAny_flow I hok β0 h0 h)
def tailI (I : Inv0) (T : (Nat → Value) → World → Prop) (n : Nat) : Inv0 := fun β L w => if L n = true then T β w else I β L w
def lastOk (ops : Array Oper) (n : Nat) : Bool := (List.range n).all fun j => reach ops ops.size j n
theorem At.all {L : Nat → Bool} {n : Nat} {o : Oper} (hat : At ops L n) (ho : ops[n]? = some o) (h : lastOk ops n = true) : ∀ j, j < n → L j = true := fun j hj => by
  have h1 := List.all_eq_true.1 h j (List.mem_range.2 hj)
  cases hs : ops.size with
  | zero => rw [hs] at h1; simp [reach] at h1; omega
  | succ f =>
    rw [hs] at h1
    unfold reach at h1
    rcases Bool.or_eq_true _ _ |>.mp h1 with h1 | h1
    · have : j = n := by simpa using h1
      omega
    · rw [ho] at h1
      obtain ⟨e, he, hb⟩ := Array.any_eq_true'.1 h1
      rw [Bool.and_eq_true] at hb
      refine reach_down hat.out (fun i j => hat.down i j) f j e.on (hat.pre e.on ?_) hb.2
      unfold preOf
      rw [ho]
      exact Array.any_eq_true'.2 ⟨e, he, by simp [hb.1]⟩
theorem Ob.tail {I : Inv0} {T : (Nat → Value) → World → Prop} {n i : Nat} {o : Oper} {A : (Nat → Value) → Act} {v : (Nat → Value) → Value} (hi : i < n) (hr : reach ops ops.size i n = true) (h : Ob P ops I i o A v) : Ob P ops (tailI I T n) i o A v := by
  refine ⟨h.1, fun β L w hI hat => ?_⟩
  have hL : L n = false := by
    cases hL : L n with
    | false => rfl
    | true =>
      have := reach_down hat.out (fun i j => hat.down i j) _ i n hL hr
      rw [hat.un] at this
      cases this
  have hI' : I β L w := by
    unfold tailI at hI
    rw [hL] at hI
    exact hI
  have keep : ∀ β' w', I β' (setL L i) w' → tailI I T n β' (setL L i) w' := fun β' w' h' => by
    unfold tailI
    rw [setL_ne L (by omega), hL]
    exact h'
  rcases h.2 β L w hI' hat with ⟨hw, hwp⟩ | ⟨hw, b, hb, hb'⟩
  · refine .inl ⟨hw, Oper.wp_mono (fun a' w' ⟨b, h1, h2⟩ => ⟨b, h1, keep _ _ h2⟩) hwp⟩
  · exact .inr ⟨hw, b, hb, keep _ _ hb'⟩
theorem Flow.tail {I : Inv0} {T : (Nat → Value) → World → Prop} {K K' : ((Nat → Value) → Act) → Prop} {n : Nat} {o : Oper} (hl : lastOk ops n = true)
    (hK : ∀ A, K A → ∃ v, Ob P ops (tailI I T n) n o A v ∧ K' (fun β => (A β).put o.dst (v β))) : ∀ (l : List Oper) (i : Nat) (A : (Nat → Value) → Act), i + l.length = n → Flow P ops I K l i A → Flow P ops (tailI I T n) K' (l ++ [o]) i A
  | [], i, A, hi, h => by
    obtain rfl : i = n := by simpa using hi
    obtain ⟨v, h1, h2⟩ := hK A h
    exact ⟨v, h1, h2⟩
  | o' :: l, i, A, hi, h => by
    obtain ⟨v, h1, h2⟩ := h
    simp only [List.length_cons] at hi
    exact ⟨v, h1.tail (by omega) (List.all_eq_true.1 hl i (List.mem_range.2 (by omega))), Flow.tail hl hK l (i + 1) _ (by omega) h2⟩
end
end Go.Proofs.Ytgccankekflchaa

