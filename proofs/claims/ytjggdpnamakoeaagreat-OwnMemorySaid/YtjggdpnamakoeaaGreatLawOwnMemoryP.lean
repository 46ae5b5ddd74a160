/- Arguments are not modified, and results share no memory with them: the law OwnMemory returns true for every list of ops and every list of changes; no condition. -/
import Derived.Test.YtjggdpnamakoeaaGreatOWP54
set_option linter.unusedVariables false
set_option linter.unusedSimpArgs false
set_option linter.unusedSectionVars false
namespace Go.Proofs.YtjggdpnamakoeaaGreat
open Go.RowKit Go.ChangeShapes Go.WideShapes Go.ChangeAt Go.Deep

set_option maxRecDepth 100000 in
theorem ownMemory_lifted (os : Os) (started : os.Started) (H : Type) (enc : TypeId × Value → H) :
    ReturnsInHanded {} Tryz.checked os 8 .any (Rows.ownMemorySpec.pre6 enc Tryz.prog Tryz.f8 Rows.ownMemoryRow.domain false) (Rows.ownMemorySpec.post enc Tryz.prog Tryz.f8 false true false false) := by
  refine law_lift started (by kernel_rfl) Tryz.func8 (by decide +kernel) rfl rfl (fun ds h => ?_)
    (ChangeSpec.witness6 (enc := enc) (C := Tryz.checked) false ⟨#[], #[.slice none 0 0, .slice none 0 0], []⟩ 8 (by kernel_rfl) (by kernel_rfl) (by kernel_rfl) (by kernel_rfl)) ?_
  · match ds, h with
    | [_, _], _ => rfl
  intro W base args ds p hval hA hlt hsz
  rw [Tryz.params8] at hA hval hsz
  obtain ⟨v0, v1, d0, d1, p0, p1, rfl, rfl, rfl, h0, h1⟩ := trodAll_two hA
  obtain ⟨A0, c0, a0, rfl, n0, g0, f0, e0, m0⟩ := open_ops_arg 0 hsz rfl rfl (hval 0 22 v0 rfl rfl) h0 (fun x hx => hlt x (by simp [hx]))
  obtain ⟨A1, c1, a1, rfl, n1, g1, f1, e1, m1, k1⟩ := open_changes_arg 1 hsz rfl rfl (hval 1 61 v1 rfl rfl) h1 (fun x hx => hlt x (by simp [hx]))
  exact ownMemory_any A0 A1 c0 c1 a0 a1 W g0 (by omega) (fun o ho => (f0 o ho).1) g1 (fun o ho => (f1 o ho).1) n1 k1

theorem ownMemory_holds : Rows.OwnMemorySaid :=
  OpenClaim.holds_of_wide 8 Tryz.f8 rfl rfl rfl rfl rfl rfl rfl ⟨rfl, rfl, rfl, rfl, rfl⟩ rfl rfl rfl rfl rfl (by kernel_rfl) Tryz.func8 (by kernel_rfl)
    (of_decide_eq_true (by kernel_rfl)) (by unfold Func.isWrapper; rw [if_neg (of_decide_eq_false (by kernel_rfl))]; exact ⟨rfl, rfl⟩)
    (fun os started H enc _ => ownMemory_lifted os started H enc)

end Go.Proofs.YtjggdpnamakoeaaGreat
