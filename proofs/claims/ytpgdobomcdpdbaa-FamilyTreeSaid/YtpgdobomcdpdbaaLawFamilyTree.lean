/- Nobody is under itself, each has one parent, whose child it is, and whoever is under one has it above: the law FamilyTree returns true for every list of ops; no condition. -/
import Derived.Test.YtpgdobomcdpdbaaLift4
import Derived.Test.YtpgdobomcdpdbaaFamLawTree
namespace Go.Proofs.Ytpgdobomcdpdbaa
open Go.RowKit Go.ChangeShapes Go.WideShapes Go.ChangeAt Go.Deep

set_option maxRecDepth 100000 in
theorem familyTree_lifted (os : Os) (started : os.Started) (H : Type) (enc : TypeId × Value → H) :
    ReturnsInHanded {} Try.checked os 8 .any (Rows.familyTreeSpec.pre6 enc Try.prog Try.f8 Rows.familyTreeRow.domain false) (Rows.familyTreeSpec.post enc Try.prog Try.f8 false true false false) := by
  refine law_lift started (by kernel_rfl) Try.func8 (by decide +kernel) rfl rfl (fun ds h => ?_)
    (ChangeSpec.witness6 (enc := enc) (C := Try.checked) false ⟨#[], #[.slice none 0 0], []⟩ 8 (by kernel_rfl) (by kernel_rfl) (by kernel_rfl) (by kernel_rfl)) ?_
  · match ds, h with
    | [_], _ => rfl
  intro W base args ds p hval hA hlt hsz
  rw [Try.params8] at hA hval hsz
  obtain ⟨v0, d0, rfl, rfl, h0⟩ := trodAll_one hA
  obtain ⟨A0, c0, a0, rfl, n0, g0, f0, e0, m0⟩ := open_ops_arg 0 hsz rfl rfl (hval 0 48 v0 rfl rfl) h0 hlt
  exact familyTree_any A0 c0 a0 W g0 n0 (fun o ho => (f0 o ho).1)

theorem familyTree_holds : Rows.FamilyTreeSaid :=
  OpenClaim.holds_of_wide 8 Try.f8 rfl rfl rfl rfl rfl rfl rfl ⟨rfl, rfl, rfl, rfl, rfl⟩ rfl rfl rfl rfl rfl (by kernel_rfl) Try.func8 (by kernel_rfl)
    (of_decide_eq_true (by kernel_rfl)) (by unfold Func.isWrapper; rw [if_neg (of_decide_eq_false (by kernel_rfl))]; exact ⟨rfl, rfl⟩)
    (fun os started H enc _ => familyTree_lifted os started H enc)

end Go.Proofs.Ytpgdobomcdpdbaa
