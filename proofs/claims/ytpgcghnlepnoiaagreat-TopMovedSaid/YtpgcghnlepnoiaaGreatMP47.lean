/-
  Several texts in one (merged by a program of mine): ZooSame.
-/
import Derived.Test.YtpgcghnlepnoiaaGreatMP46
set_option linter.unusedVariables false
set_option linter.unusedSimpArgs false
set_option linter.unusedSectionVars false
/-
  The contract of vivariumref.Same, at two states that are one.
-/
namespace Go.Proofs.YtpgcghnlepnoiaaGreat
open Go.RowKit

section
variable {G : Nat → Prop} {w0 w : World} {l : List Assn} {gv rv bv gv' rv' bv' : Value} {gs : List Int} {rs : List RowM} {bs : List (Hd × Hd)}
theorem In.fifthS {A B C D E : Assn} (h : In G w0 (A :: B :: C :: D :: E :: l) w) : In G w0 (E :: A :: B :: C :: D :: l) w := h.reorder 5 [4, 0, 1, 2, 3] rfl (by simp)
end

end Go.Proofs.YtpgcghnlepnoiaaGreat
