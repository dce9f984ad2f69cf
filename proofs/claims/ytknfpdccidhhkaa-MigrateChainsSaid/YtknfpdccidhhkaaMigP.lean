/- Plain facts: how two halves of a quotient are found, one after the other. -/
import Derived.Test.YtknfpdccidhhkaaBase
namespace Go.Proofs.Ytknfpdccidhhkaa

/-- while a half of the quotient is sought: u over y1 and what is left, for Y = y1 * 2^32 + y0, and a further half d -/
def QI (u d y1 y0 q r : Nat) : Prop := q * y1 + r = u ∧ (u * 4294967296 + d) / (y1 * 4294967296 + y0) ≤ q ∧ q ≤ 4294967297
section
variable {u d y1 y0 q r : Nat}
theorem QI.start (h1 : 2147483648 ≤ y1) (h3 : y0 < 4294967296) (hu : u < y1 * 4294967296 + y0) (hd : d < 4294967296) : QI u d y1 y0 (u / y1) (u % y1) := by
  have hpos : 0 < y1 := by omega
  have hdm : u / y1 * y1 + u % y1 = u := by have := Nat.div_add_mod u y1; rw [Nat.mul_comm] at this; exact this
  have hr : u % y1 < y1 := Nat.mod_lt _ hpos
  refine ⟨hdm, ?_, ?_⟩
  · have hlt : u * 4294967296 + d < (u / y1 + 1) * (y1 * 4294967296 + y0) := by
      have e : (u / y1 + 1) * (y1 * 4294967296 + y0) = (u / y1 * y1) * 4294967296 + y1 * 4294967296 + (u / y1 + 1) * y0 := by
        rw [Nat.mul_add, Nat.add_mul, ← Nat.mul_assoc, Nat.add_mul]
        omega
      rw [e]
      generalize u / y1 * y1 = p at *
      generalize (u / y1 + 1) * y0 = p2 at *
      omega
    have := (Nat.div_lt_iff_lt_mul (show 0 < y1 * 4294967296 + y0 by omega)).2 hlt
    omega
  · have := (Nat.div_lt_iff_lt_mul hpos).2 (show u < 4294967298 * y1 by omega)
    omega
theorem QI.top' (Y u d : Nat) (hu : u < Y) (hd : d < 4294967296) : (u * 4294967296 + d) / Y < 4294967296 := by
  rw [Nat.div_lt_iff_lt_mul (by omega)]
  omega
theorem QI.top (hu : u < y1 * 4294967296 + y0) (hd : d < 4294967296) : (u * 4294967296 + d) / (y1 * 4294967296 + y0) < 4294967296 := by
  exact QI.top' _ _ _ hu hd
theorem QI.prod (h : QI u d y1 y0 q r) : q * (y1 * 4294967296 + y0) = (u - r) * 4294967296 + q * y0 ∧ r ≤ u := by
  obtain ⟨h1, _, _⟩ := h
  have hr : r ≤ u := by omega
  refine ⟨?_, hr⟩
  have e : q * (y1 * 4294967296 + y0) = (q * y1) * 4294967296 + q * y0 := by rw [Nat.mul_add, ← Nat.mul_assoc]
  rw [e, show q * y1 = u - r by omega]
/-- one less -/
theorem QI.less (h : QI u d y1 y0 q r) (hu : u < y1 * 4294967296 + y0) (hd : d < 4294967296) (hc : 4294967296 ≤ q ∨ 4294967296 * r + d < q * y0) : 1 ≤ q ∧ QI u d y1 y0 (q - 1) (r + y1) ∧ q - 1 ≤ 4294967296 := by
  have ht := QI.top hu hd
  have hlt : (u * 4294967296 + d) / (y1 * 4294967296 + y0) < q := by
    rcases hc with hc | hc
    · omega
    · obtain ⟨hp, hr⟩ := h.prod
      refine (Nat.div_lt_iff_lt_mul (show 0 < y1 * 4294967296 + y0 by omega)).2 ?_
      rw [hp]
      generalize q * y0 = p at *
      omega
  obtain ⟨h1, h2, h3⟩ := h
  unfold QI
  generalize (u * 4294967296 + d) / (y1 * 4294967296 + y0) = T at *
  refine ⟨by omega, ⟨?_, by omega, by omega⟩, by omega⟩
  obtain ⟨k, rfl⟩ : ∃ k, q = k + 1 := ⟨q - 1, by omega⟩
  rw [Nat.add_sub_cancel]
  rw [Nat.add_mul] at h1
  omega
theorem QI.found (h : QI u d y1 y0 q r) (hy : 0 < y1) (hc : q * y0 ≤ 4294967296 * r + d) : q = (u * 4294967296 + d) / (y1 * 4294967296 + y0) := by
  obtain ⟨hp, hr⟩ := h.prod
  refine Nat.le_antisymm ?_ h.2.1
  rw [Nat.le_div_iff_mul_le (by omega), hp]
  generalize q * y0 = p at *
  omega
theorem QI.broke (h : QI u d y1 y0 q r) (hy : 0 < y1) (h3 : y0 < 4294967296) (hq : q ≤ 4294967296) (hr : 4294967296 ≤ r) : q = (u * 4294967296 + d) / (y1 * 4294967296 + y0) := by
  refine h.found hy ?_
  have := Nat.mul_le_mul hq (Nat.le_of_lt h3)
  omega
/-- what is left -/
theorem QI.rest (hu : u < y1 * 4294967296 + y0) (hq : q = (u * 4294967296 + d) / (y1 * 4294967296 + y0)) : q * (y1 * 4294967296 + y0) + (u * 4294967296 + d) % (y1 * 4294967296 + y0) = u * 4294967296 + d ∧ (u * 4294967296 + d) % (y1 * 4294967296 + y0) < y1 * 4294967296 + y0 := by
  subst hq
  have := Nat.div_add_mod (u * 4294967296 + d) (y1 * 4294967296 + y0)
  rw [Nat.mul_comm] at this
  exact ⟨this, Nat.mod_lt _ (by omega)⟩
end
/-- both halves together, and the shift undone -/
theorem div_two {U y s Y u v1 v0 q1 r1 q0 r0 : Nat} (hY : Y = y * 2 ^ s) (hU : U * 2 ^ s = (u * 4294967296 + v1) * 4294967296 + v0) (h1 : q1 * Y + r1 = u * 4294967296 + v1) (h0 : q0 * Y + r0 = r1 * 4294967296 + v0) (hr : r0 < Y) (hy : 0 < y) :
    q1 * 4294967296 + q0 = U / y ∧ r0 / 2 ^ s = U % y := by
  have hp : 0 < 2 ^ s := Nat.two_pow_pos s
  have hall : (q1 * 4294967296 + q0) * Y + r0 = U * 2 ^ s := by
    rw [hU, ← h1, Nat.add_mul, Nat.mul_right_comm]
    omega
  have hdvd : r0 = (U - (q1 * 4294967296 + q0) * y) * 2 ^ s := by
    rw [Nat.sub_mul, ← hall, hY, Nat.mul_assoc]
    omega
  have hlt : U - (q1 * 4294967296 + q0) * y < y := by
    rw [hdvd, hY] at hr
    exact Nat.lt_of_mul_lt_mul_right hr
  have hle : (q1 * 4294967296 + q0) * y ≤ U := by
    have : (q1 * 4294967296 + q0) * y * 2 ^ s ≤ U * 2 ^ s := by
      rw [← hall, hY, Nat.mul_assoc]
      omega
    exact Nat.le_of_mul_le_mul_right this hp
  have hU2 : U = y * (q1 * 4294967296 + q0) + (U - (q1 * 4294967296 + q0) * y) := by
    rw [Nat.mul_comm y]
    omega
  constructor
  · rw [hU2, Nat.mul_add_div hy, Nat.div_eq_of_lt hlt]
    omega
  · conv => rhs; rw [hU2, Nat.mul_add_mod, Nat.mod_eq_of_lt hlt]
    rw [hdvd, Nat.mul_div_cancel _ hp]
end Go.Proofs.Ytknfpdccidhhkaa
