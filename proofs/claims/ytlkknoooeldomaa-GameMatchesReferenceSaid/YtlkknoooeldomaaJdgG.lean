

/- Contracts of package judge: appending a situation to a slice of the call's own. -/
import Derived.Test.YtlkknoooeldomaaJdgF
namespace Go.Proofs.Ytlkknoooeldomaa
open Go.RowKit


