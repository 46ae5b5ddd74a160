/-
  Several texts in one (merged by a program of mine): EqHandle, EqRow, EqBond.
-/
import Derived.Test.YtpgcghnlepnoiaaGreatMP13
import Derived.StillTailTactics
import Derived.BigQuiet
import Derived.Deep.DeepCutAuto
set_option linter.unusedVariables false
set_option linter.unusedSimpArgs false
set_option linter.unusedSectionVars false
/-
  The contract of vivariumref.Eq at api.Handle (printed by wip/gen_eq.py).
-/
namespace Go.Proofs.YtpgcghnlepnoiaaGreat
open Go.RowKit


end Go.Proofs.YtpgcghnlepnoiaaGreat

/-
  The contract of vivariumref.Eq at api.Row (printed by wip/gen_eq.py).
-/
namespace Go.Proofs.YtpgcghnlepnoiaaGreat
open Go.RowKit

end Go.Proofs.YtpgcghnlepnoiaaGreat

/-
  The contract of vivariumref.Eq at api.Bond (printed by wip/gen_eq.py).
-/
namespace Go.Proofs.YtpgcghnlepnoiaaGreat
open Go.RowKit

end Go.Proofs.YtpgcghnlepnoiaaGreat
