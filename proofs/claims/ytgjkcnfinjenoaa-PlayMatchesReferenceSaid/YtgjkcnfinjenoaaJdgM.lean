
/- Contracts of package judge: Accept where nothing is to be followed. -/
import Derived.Test.YtgjkcnfinjenoaaJdgL
namespace Go.Proofs.Ytgjkcnfinjenoaa
open Go.RowKit


