/- Whatever operations were done, the state is valid and loading it restores it: the law ZooMay returns true for every list of ops; no condition. -/
import Derived.Test.YtjggdpnamakoeaaGreatZP45
namespace Go.Proofs.YtjggdpnamakoeaaGreat
open Go.RowKit Go.ChangeShapes Go.WideShapes Go.ChangeAt Go.Deep

set_option maxRecDepth 100000 in
theorem zooMay_lifted (os : Os) (started : os.Started) (H : Type) (enc : TypeId × Value → H) :
    ReturnsInHanded {} Tryz.checked os 3 .any (Rows.zooMaySpec.pre6 enc Tryz.prog Tryz.f3 Rows.zooMayRow.domain false) (Rows.zooMaySpec.post enc Tryz.prog Tryz.f3 false true false false) := by
  refine law_lift started (by kernel_rfl) Tryz.func3 (by decide +kernel) rfl rfl (fun ds h => ?_)
    (ChangeSpec.witness6 (enc := enc) (C := Tryz.checked) false ⟨#[], #[.slice none 0 0], []⟩ 8 (by kernel_rfl) (by kernel_rfl) (by kernel_rfl) (by kernel_rfl)) ?_
  · match ds, h with
    | [_], _ => rfl
  intro W base args ds p hval hA hlt hsz
  rw [Tryz.params3] at hA hval hsz
  obtain ⟨v0, d0, rfl, rfl, h0⟩ := trodAll_one hA
  obtain ⟨A0, c0, a0, rfl, n0, g0, f0, e0, m0⟩ := open_ops_arg 0 hsz rfl rfl (hval 0 22 v0 rfl rfl) h0 hlt
  exact zooMay_any A0 c0 a0 W g0 (by omega) (fun o ho => (f0 o ho).1)

theorem zooMay_holds : Rows.ZooMaySaid :=
  OpenClaim.holds_of_wide 3 Tryz.f3 rfl rfl rfl rfl rfl rfl rfl ⟨rfl, rfl, rfl, rfl, rfl⟩ rfl rfl rfl rfl rfl (by kernel_rfl) Tryz.func3 (by kernel_rfl)
    (of_decide_eq_true (by kernel_rfl)) (by unfold Func.isWrapper; rw [if_neg (of_decide_eq_false (by kernel_rfl))]; exact ⟨rfl, rfl⟩)
    (fun os started H enc _ => zooMay_lifted os started H enc)

end Go.Proofs.YtjggdpnamakoeaaGreat
