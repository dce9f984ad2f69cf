

/- Contracts of package judge: appending a situation to a slice of the call's own. -/
import Derived.Test.YtgjkcnfinjenoaaJdgF
namespace Go.Proofs.Ytgjkcnfinjenoaa
open Go.RowKit


