/- In one batch no two clash, what clashes is in a later one, and none waits without need: the law SystemBatches returns true for every list of systems; no condition. -/
import Derived.Test.YtmocljblfccglaaLift3
import Derived.Test.YtmocljblfccglaaSysBatches
namespace Go.Proofs.Ytmocljblfccglaa
open Go.RowKit Go.ChangeShapes Go.WideShapes Go.ChangeAt Go.Deep

set_option maxRecDepth 100000 in
theorem systemBatches_lifted (os : Os) (started : os.Started) (H : Type) (enc : TypeId × Value → H) :
    ReturnsInHanded {} Try.checked os 13 .any (Rows.systemBatchesSpec.pre6 enc Try.prog Try.f13 Rows.systemBatchesRow.domain false) (Rows.systemBatchesSpec.post enc Try.prog Try.f13 false true false false) := by
  refine law_lift started (by kernel_rfl) Try.func13 (by decide +kernel) rfl rfl (fun ds h => ?_)
    (ChangeSpec.witness6 (enc := enc) (C := Try.checked) false ⟨#[], #[.slice none 0 0], []⟩ 8 (by kernel_rfl) (by kernel_rfl) (by kernel_rfl) (by kernel_rfl)) ?_
  · match ds, h with
    | [_], _ => rfl
  intro W base args ds p hval hA hlt hsz
  rw [Try.params13] at hA hval
  obtain ⟨v0, d0, rfl, rfl, h0⟩ := trodAll_one hA
  obtain ⟨A0, c0, a0, rfl, n0, f0, g0⟩ := open_syss_arg (hval 0 69 v0 rfl rfl) h0 hlt
  exact systemBatches_any A0 c0 a0 W f0 n0

theorem systemBatches_holds : Rows.SystemBatchesSaid :=
  OpenClaim.holds_of_wide 13 Try.f13 rfl rfl rfl rfl rfl rfl rfl ⟨rfl, rfl, rfl, rfl, rfl⟩ rfl rfl rfl rfl rfl (by kernel_rfl) Try.func13 (by kernel_rfl)
    (of_decide_eq_true (by kernel_rfl)) (by unfold Func.isWrapper; rw [if_neg (of_decide_eq_false (by kernel_rfl))]; exact ⟨rfl, rfl⟩)
    (fun os started H enc _ => systemBatches_lifted os started H enc)

end Go.Proofs.Ytmocljblfccglaa
