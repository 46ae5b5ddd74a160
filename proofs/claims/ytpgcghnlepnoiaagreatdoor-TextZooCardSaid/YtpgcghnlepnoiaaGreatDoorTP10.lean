/-
  Several texts in one (merged by a program of mine): HasRow, HasHandle, HasBond.
-/
import Derived.Test.YtpgcghnlepnoiaaGreatDoorTP9
import Derived.Deep.DeepCutAuto
set_option linter.unusedVariables false
set_option linter.unusedSimpArgs false
set_option linter.unusedSectionVars false
/-
  The contract of vivariumref.Has at api.Row (printed by wip/gen_has.py).
-/
namespace Go.Proofs.YtpgcghnlepnoiaaGreatDoor
open Go.RowKit


end Go.Proofs.YtpgcghnlepnoiaaGreatDoor

/-
  The contract of vivariumref.Has at api.Handle (printed by wip/gen_has.py).
-/
namespace Go.Proofs.YtpgcghnlepnoiaaGreatDoor
open Go.RowKit


end Go.Proofs.YtpgcghnlepnoiaaGreatDoor

/-
  The contract of vivariumref.Has at api.Bond (printed by wip/gen_has.py).
-/
namespace Go.Proofs.YtpgcghnlepnoiaaGreatDoor
open Go.RowKit


end Go.Proofs.YtpgcghnlepnoiaaGreatDoor
