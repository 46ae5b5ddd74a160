/- No handle is returned twice, and a freed handle is never live again: the law SlotsNever returns true for every list of numbers; no condition. -/
import Derived.Test.YtmocljblfccglaaLift3
import Derived.Test.YtmocljblfccglaaSlotNever
namespace Go.Proofs.Ytmocljblfccglaa
open Go.RowKit Go.ChangeShapes Go.WideShapes Go.ChangeAt Go.Deep

set_option maxRecDepth 100000 in
theorem slotsNever_lifted (os : Os) (started : os.Started) (H : Type) (enc : TypeId × Value → H) :
    ReturnsInHanded {} Try.checked os 6 .any (Rows.slotsNeverSpec.pre6 enc Try.prog Try.f6 Rows.slotsNeverRow.domain false) (Rows.slotsNeverSpec.post enc Try.prog Try.f6 false true false false) := by
  refine law_lift started (by kernel_rfl) Try.func6 (by decide +kernel) rfl rfl (fun ds h => ?_)
    (ChangeSpec.witness6 (enc := enc) (C := Try.checked) false ⟨#[], #[.slice none 0 0], []⟩ 8 (by kernel_rfl) (by kernel_rfl) (by kernel_rfl) (by kernel_rfl)) ?_
  · match ds, h with
    | [_], _ => rfl
  intro W base args ds p hval hA hlt hsz
  rw [Try.params6] at hA hval
  obtain ⟨v0, d0, rfl, rfl, h0⟩ := trodAll_one hA
  obtain ⟨A0, n0, c0, a0, rfl, e0, f0, g0⟩ := open_ints2_arg (hval 0 22 v0 rfl rfl) h0 hlt
  exact slotsNever_any A0 n0 c0 a0 W g0 e0 f0

theorem slotsNever_holds : Rows.SlotsNeverSaid :=
  OpenClaim.holds_of_wide 6 Try.f6 rfl rfl rfl rfl rfl rfl rfl ⟨rfl, rfl, rfl, rfl, rfl⟩ rfl rfl rfl rfl rfl (by kernel_rfl) Try.func6 (by kernel_rfl)
    (of_decide_eq_true (by kernel_rfl)) (by unfold Func.isWrapper; rw [if_neg (of_decide_eq_false (by kernel_rfl))]; exact ⟨rfl, rfl⟩)
    (fun os started H enc _ => slotsNever_lifted os started H enc)

end Go.Proofs.Ytmocljblfccglaa
