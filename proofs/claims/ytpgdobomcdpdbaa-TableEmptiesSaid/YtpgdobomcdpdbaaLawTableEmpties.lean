/- Rows that are removed in any order all come out, each once, and nothing is left: the law TableEmpties returns true for every set, list of values and order; no condition. -/
import Derived.Test.YtpgdobomcdpdbaaLift3
import Derived.Test.YtpgdobomcdpdbaaTableEmpties
namespace Go.Proofs.Ytpgdobomcdpdbaa
open Go.RowKit Go.ChangeShapes Go.WideShapes Go.ChangeAt Go.Deep

set_option maxRecDepth 100000 in
theorem tableEmpties_lifted (os : Os) (started : os.Started) (H : Type) (enc : TypeId × Value → H) :
    ReturnsInHanded {} Try.checked os 5 .any (Rows.tableEmptiesSpec.pre6 enc Try.prog Try.f5 Rows.tableEmptiesRow.domain false) (Rows.tableEmptiesSpec.post enc Try.prog Try.f5 false true false false) := by
  refine law_lift started (by kernel_rfl) Try.func5 (by decide +kernel) rfl rfl (fun ds h => ?_)
    (ChangeSpec.witness6 (enc := enc) (C := Try.checked) false ⟨#[], #[.int .i64 0, .slice none 0 0, .slice none 0 0], []⟩ 8 (by kernel_rfl) (by kernel_rfl) (by kernel_rfl) (by kernel_rfl)) ?_
  · match ds, h with
    | [_, _, _], _ => rfl
  intro W base args ds p hval hA hlt hsz
  rw [Try.params5] at hA hval
  obtain ⟨v0, v1, v2, d0, d1, d2, p0, p1, p2, rfl, rfl, rfl, h0, h1, h2⟩ := trodAll_three hA
  obtain ⟨a0, rfl, rfl, rfl, f0⟩ := open_int Try.underlying3 (hval 0 3 v0 rfl rfl) h0
  obtain ⟨A1, n1, c1, a1, rfl, e1, f1, g1⟩ := open_ints2_arg (hval 1 22 v1 rfl rfl) h1 (fun x hx => hlt x (by simp [hx]))
  obtain ⟨A2, n2, c2, a2, rfl, e2, f2, g2⟩ := open_ints2_arg (hval 2 22 v2 rfl rfl) h2 (fun x hx => hlt x (by simp [hx]))
  exact tableEmpties_any a0 A1 n1 c1 a1 A2 n2 c2 a2 W g1 e1 f1 g2 e2 f2

theorem tableEmpties_holds : Rows.TableEmptiesSaid :=
  OpenClaim.holds_of_wide 5 Try.f5 rfl rfl rfl rfl rfl rfl rfl ⟨rfl, rfl, rfl, rfl, rfl⟩ rfl rfl rfl rfl rfl (by kernel_rfl) Try.func5 (by kernel_rfl)
    (of_decide_eq_true (by kernel_rfl)) (by unfold Func.isWrapper; rw [if_neg (of_decide_eq_false (by kernel_rfl))]; exact ⟨rfl, rfl⟩)
    (fun os started H enc _ => tableEmpties_lifted os started H enc)

end Go.Proofs.Ytpgdobomcdpdbaa
