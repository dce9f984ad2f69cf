
/- Contracts of package task: lists that are not valid; the reference's Closed. -/
import Derived.Test.YtoblmecgnpoogaaTaskL
namespace Go.Proofs.Ytoblmecgnpoogaa
open Go.RowKit

/-- returned booleans and an error number -/
def RetBE (l : List Bool) (n : Int) (w : World) (e : Ending) (w' : World) : Prop := ∃ a cap, e = .returned (.tuple #[.slice a l.length cap, .int .i64 n]) ∧ Bools w' a l ∧ Below w.heap.size w w'


