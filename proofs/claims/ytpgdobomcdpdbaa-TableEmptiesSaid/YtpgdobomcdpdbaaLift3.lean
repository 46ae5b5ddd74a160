/-
  Slices of systems as arguments.
-/
import Derived.Test.YtpgdobomcdpdbaaLift2
import Derived.Test.YtpgdobomcdpdbaaSysIn
namespace Go.Proofs.Ytpgdobomcdpdbaa
open Go.RowKit Go.ChangeShapes Go.WideShapes Go.ChangeAt Go.Deep


end Go.Proofs.Ytpgdobomcdpdbaa
