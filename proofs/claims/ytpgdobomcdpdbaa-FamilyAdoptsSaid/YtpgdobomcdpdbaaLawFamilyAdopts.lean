/- After Adopt the child is under the parent, a ring is refused, and all other bonds stay: the law FamilyAdopts returns true for every list of ops and every two handles; no condition. -/
import Derived.Test.YtpgdobomcdpdbaaLift4
import Derived.Test.YtpgdobomcdpdbaaFamLawAdopts
namespace Go.Proofs.Ytpgdobomcdpdbaa
open Go.RowKit Go.ChangeShapes Go.WideShapes Go.ChangeAt Go.Deep

set_option maxRecDepth 100000 in
theorem familyAdopts_lifted (os : Os) (started : os.Started) (H : Type) (enc : TypeId × Value → H) :
    ReturnsInHanded {} Try.checked os 7 .any (Rows.familyAdoptsSpec.pre6 enc Try.prog Try.f7 Rows.familyAdoptsRow.domain false) (Rows.familyAdoptsSpec.post enc Try.prog Try.f7 false true false false) := by
  refine law_lift started (by kernel_rfl) Try.func7 (by decide +kernel) rfl rfl (fun ds h => ?_)
    (ChangeSpec.witness6 (enc := enc) (C := Try.checked) false ⟨#[], #[.slice none 0 0, .agg #[.int .i64 0, .int .i64 0], .agg #[.int .i64 0, .int .i64 0]], []⟩ 8 (by kernel_rfl) (by kernel_rfl) (by kernel_rfl) (by kernel_rfl)) ?_
  · match ds, h with
    | [_, _, _], _ => rfl
  intro W base args ds p hval hA hlt hsz
  rw [Try.params7] at hA hval hsz
  obtain ⟨v0, v1, v2, d0, d1, d2, p0, p1, p2, rfl, rfl, rfl, h0, h1, h2⟩ := trodAll_three hA
  obtain ⟨A0, c0, a0, rfl, n0, g0, f0, e0, m0⟩ := open_ops_arg 0 hsz rfl rfl (hval 0 48 v0 rfl rfl) h0 (fun x hx => hlt x (by simp [hx]))
  obtain ⟨a1, rfl, f1⟩ := open_handle (hval 1 36 v1 rfl rfl) h1
  obtain ⟨a2, rfl, f2⟩ := open_handle (hval 2 36 v2 rfl rfl) h2
  exact familyAdopts_any A0 c0 a0 a1 a2 W g0 n0 (fun o ho => (f0 o ho).1)

theorem familyAdopts_holds : Rows.FamilyAdoptsSaid :=
  OpenClaim.holds_of_wide 7 Try.f7 rfl rfl rfl rfl rfl rfl rfl ⟨rfl, rfl, rfl, rfl, rfl⟩ rfl rfl rfl rfl rfl (by kernel_rfl) Try.func7 (by kernel_rfl)
    (of_decide_eq_true (by kernel_rfl)) (by unfold Func.isWrapper; rw [if_neg (of_decide_eq_false (by kernel_rfl))]; exact ⟨rfl, rfl⟩)
    (fun os started H enc _ => familyAdopts_lifted os started H enc)

end Go.Proofs.Ytpgdobomcdpdbaa
