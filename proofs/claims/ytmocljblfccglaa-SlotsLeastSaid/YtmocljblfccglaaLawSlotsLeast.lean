/- The lowest available slots are used, so there are never more slots than were live at the same time: the law SlotsLeast returns true for every list of numbers; no condition. -/
import Derived.Test.YtmocljblfccglaaLift3
import Derived.Test.YtmocljblfccglaaSlotLeast
namespace Go.Proofs.Ytmocljblfccglaa
open Go.RowKit Go.ChangeShapes Go.WideShapes Go.ChangeAt Go.Deep

set_option maxRecDepth 100000 in
theorem slotsLeast_lifted (os : Os) (started : os.Started) (H : Type) (enc : TypeId × Value → H) :
    ReturnsInHanded {} Try.checked os 7 .any (Rows.slotsLeastSpec.pre6 enc Try.prog Try.f7 Rows.slotsLeastRow.domain false) (Rows.slotsLeastSpec.post enc Try.prog Try.f7 false true false false) := by
  refine law_lift started (by kernel_rfl) Try.func7 (by decide +kernel) rfl rfl (fun ds h => ?_)
    (ChangeSpec.witness6 (enc := enc) (C := Try.checked) false ⟨#[], #[.slice none 0 0], []⟩ 8 (by kernel_rfl) (by kernel_rfl) (by kernel_rfl) (by kernel_rfl)) ?_
  · match ds, h with
    | [_], _ => rfl
  intro W base args ds p hval hA hlt hsz
  rw [Try.params7] at hA hval
  obtain ⟨v0, d0, rfl, rfl, h0⟩ := trodAll_one hA
  obtain ⟨A0, n0, c0, a0, rfl, e0, f0, g0⟩ := open_ints2_arg (hval 0 22 v0 rfl rfl) h0 hlt
  exact slotsLeast_any A0 n0 c0 a0 W g0 e0 f0

theorem slotsLeast_holds : Rows.SlotsLeastSaid :=
  OpenClaim.holds_of_wide 7 Try.f7 rfl rfl rfl rfl rfl rfl rfl ⟨rfl, rfl, rfl, rfl, rfl⟩ rfl rfl rfl rfl rfl (by kernel_rfl) Try.func7 (by kernel_rfl)
    (of_decide_eq_true (by kernel_rfl)) (by unfold Func.isWrapper; rw [if_neg (of_decide_eq_false (by kernel_rfl))]; exact ⟨rfl, rfl⟩)
    (fun os started H enc _ => slotsLeast_lifted os started H enc)

end Go.Proofs.Ytmocljblfccglaa
