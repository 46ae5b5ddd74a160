/-
  Several texts in one (merged by a program of mine): FamAbove.
-/
import Derived.Test.YtjggdpnamakoeaaWP32
import Derived.RangeFuncNested
import Derived.RangeFuncBound
import Derived.RangeFuncCalls
import Derived.RangeFuncLeaves
import Derived.RegionIn
import Derived.BigRegionIn
import Derived.OwnWalkIn
import Derived.TacticsInMore
import Derived.LoopNIn
import Derived.LoopIn
/-
  family.above: the iterator over all that is above a handle.
-/
namespace Go.Proofs.Ytjggdpnamakoeaa
open Go.RowKit
attribute [local go_sem] Oper.semAt_some


end Go.Proofs.Ytjggdpnamakoeaa
