/-
  Several texts in one (merged by a program of mine): HasHandle, HasBond, HasRow.
-/
import Derived.Test.YtjggdpnamakoeaaGreatOWP12
import Derived.Deep.DeepCutAuto
set_option linter.unusedVariables false
set_option linter.unusedSimpArgs false
set_option linter.unusedSectionVars false
/-
  The contract of vivariumref.Has at api.Handle (printed by wip/gen_has.py).
-/
namespace Go.Proofs.YtjggdpnamakoeaaGreat
open Go.RowKit


end Go.Proofs.YtjggdpnamakoeaaGreat

/-
  The contract of vivariumref.Has at api.Bond (printed by wip/gen_has.py).
-/
namespace Go.Proofs.YtjggdpnamakoeaaGreat
open Go.RowKit


end Go.Proofs.YtjggdpnamakoeaaGreat

/-
  The contract of vivariumref.Has at api.Row (printed by wip/gen_has.py).
-/
namespace Go.Proofs.YtjggdpnamakoeaaGreat
open Go.RowKit


end Go.Proofs.YtjggdpnamakoeaaGreat
