/- A record that is laid into a slice of one, cell by cell. -/
import Derived.Test.YtgoomcnaemfjcaaHldH
import Derived.Test.YtgoomcnaemfjcaaHldOpen
namespace Go.Proofs.Ytgoomcnaemfjcaa
open Go.RowKit

theorem fold_set : ∀ (cs : List Value) (k : Nat) (zs : Array Value), k + cs.length = zs.size → (cs.zipIdx k).foldl (fun a x => a.setIfInBounds x.2 x.1) zs = (zs.toList.take k ++ cs).toArray
  | [], k, zs, h => by
    simp only [List.length_nil, Nat.add_zero] at h
    subst h
    rw [List.append_nil, List.take_of_length_le (by simp)]
    rfl
  | c :: cs, k, zs, h => by
    simp only [List.length_cons] at h
    rw [List.zipIdx_cons, List.foldl_cons, fold_set cs (k + 1) _ (by simp; omega)]
    apply congrArg List.toArray
    rw [Array.toList_setIfInBounds, List.take_succ_eq_append_getElem (by simp; omega), List.getElem_set_self, List.take_set_of_le (Nat.le_refl _)]
    simp
theorem fold_rec (r : Rec) : List.foldl (fun (cs : Array Value) (x : Value × Nat) => cs.setIfInBounds x.snd x.fst) #[.int .i64 0, .int .i64 0, .int .i64 0, .string ⟨#[]⟩, .int .i64 0, .string ⟨#[]⟩, .string ⟨#[]⟩, .string ⟨#[]⟩, .slice none 0 0, .slice none 0 0, .bool false, .int .i64 0, .int .i64 0, .int .i64 0, .bool false, .string ⟨#[]⟩, .string ⟨#[]⟩, .int .i64 0, .string ⟨#[]⟩, .string ⟨#[]⟩, .int .i64 0, .int .i64 0, .slice none 0 0, .string ⟨#[]⟩, .string ⟨#[]⟩, .int .i64 0, .string ⟨#[]⟩, .string ⟨#[]⟩, .int .i64 0, .int .i64 0, .string ⟨#[]⟩, .string ⟨#[]⟩, .int .i64 0, .int .i64 0, .slice none 0 0, .slice none 0 0] r.cs.zipIdx = r.cs.toArray := by
  have := fold_set r.cs 0 #[.int .i64 0, .int .i64 0, .int .i64 0, .string ⟨#[]⟩, .int .i64 0, .string ⟨#[]⟩, .string ⟨#[]⟩, .string ⟨#[]⟩, .slice none 0 0, .slice none 0 0, .bool false, .int .i64 0, .int .i64 0, .int .i64 0, .bool false, .string ⟨#[]⟩, .string ⟨#[]⟩, .int .i64 0, .string ⟨#[]⟩, .string ⟨#[]⟩, .int .i64 0, .int .i64 0, .slice none 0 0, .string ⟨#[]⟩, .string ⟨#[]⟩, .int .i64 0, .string ⟨#[]⟩, .string ⟨#[]⟩, .int .i64 0, .int .i64 0, .string ⟨#[]⟩, .string ⟨#[]⟩, .int .i64 0, .int .i64 0, .slice none 0 0, .slice none 0 0] (by simp [r.hl])
  simpa using this
end Go.Proofs.Ytgoomcnaemfjcaa
