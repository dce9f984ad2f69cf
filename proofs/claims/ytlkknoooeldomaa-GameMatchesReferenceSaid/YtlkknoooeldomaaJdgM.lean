
/- Contracts of package judge: Accept where nothing is to be followed. -/
import Derived.Test.YtlkknoooeldomaaJdgL
namespace Go.Proofs.Ytlkknoooeldomaa
open Go.RowKit


