/-
  Several texts in one (merged by a program of mine): Leaving.
-/
import Derived.Test.YtpgcghnlepnoiaaGreatMP18
import Derived.Conc.Holds
set_option linter.unusedVariables false
set_option linter.unusedSimpArgs false
set_option linter.unusedSectionVars false
/-
  A call during which nobody else is there, as a call that may leave others behind.
-/
namespace Go.Proofs.YtpgcghnlepnoiaaGreat
open Go.RowKit

theorem quiet_leaving {P : Program} {m : Machine} (h : m.quiet) : m.OnlyLeaving P := by
  refine ⟨fun g hg => ⟨0, ?_⟩, h.2⟩
  have h1 := h.1
  unfold Machine.othersDone at h1
  have h2 := List.all_eq_true.1 h1 g hg
  show g.status = .finished
  simpa using h2
theorem leaving_of_handed {a : Assume} {C : Checked} {os : Os} {f : FuncId} {r : Reach} {Pre : World → Array Value → Prop} {Post : World → Array Value → Value → World → Prop} (h : ReturnsInHanded a C os f r Pre Post) : ReturnsInLeavingWide a C os f r Pre Post := fun enter => by
  obtain ⟨h0, h1, h2, h3, h4⟩ := h enter
  refine ⟨h0, h1, h2, h3, fun w tape i hf => ?_⟩
  obtain ⟨n, v, w', hn, hc, hr, hp, ⟨j, last, hj, hs, hq, hh, he⟩, ha⟩ := h4 w tape i hf
  exact ⟨n, v, w', hn, hc, hr, hp, ⟨j, last, hj, hs, hh, quiet_leaving hq, he⟩, ha⟩

end Go.Proofs.YtpgcghnlepnoiaaGreat
