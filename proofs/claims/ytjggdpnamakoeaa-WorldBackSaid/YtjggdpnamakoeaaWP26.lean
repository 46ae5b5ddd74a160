/-
  Several texts in one (merged by a program of mine): FamOps.
-/
import Derived.Test.YtjggdpnamakoeaaWP25
/-
  The contracts of family.New, Parent, Loosen, Gone.
-/
namespace Go.Proofs.Ytjggdpnamakoeaa
open Go.RowKit




end Go.Proofs.Ytjggdpnamakoeaa
