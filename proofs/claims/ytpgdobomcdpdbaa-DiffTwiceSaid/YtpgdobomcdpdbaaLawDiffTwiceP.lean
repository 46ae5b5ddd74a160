/- Changes turned round twice are as they were, and what was applied is taken back by what is turned round: the law DiffTwice returns true for every list of rows and every list of changes; no condition. -/
import Derived.Test.YtpgdobomcdpdbaaDPack40
namespace Go.Proofs.Ytpgdobomcdpdbaa
open Go.RowKit Go.ChangeShapes Go.WideShapes Go.ChangeAt Go.Deep

set_option maxRecDepth 100000 in
theorem diffTwice_lifted (os : Os) (started : os.Started) (H : Type) (enc : TypeId × Value → H) :
    ReturnsInHanded {} Try.checked os 14 .any (Rows.diffTwiceSpec.pre6 enc Try.prog Try.f14 Rows.diffTwiceRow.domain false) (Rows.diffTwiceSpec.post enc Try.prog Try.f14 false true false false) := by
  refine law_lift started (by kernel_rfl) Try.func14 (by decide +kernel) rfl rfl (fun ds h => ?_)
    (ChangeSpec.witness6 (enc := enc) (C := Try.checked) false ⟨#[], #[.slice none 0 0, .slice none 0 0], []⟩ 8 (by kernel_rfl) (by kernel_rfl) (by kernel_rfl) (by kernel_rfl)) ?_
  · match ds, h with
    | [_, _], _ => rfl
  intro W base args ds p hval hA hlt hsz
  rw [Try.params14] at hA hval hsz
  obtain ⟨v0, v1, d0, d1, p0, p1, rfl, rfl, rfl, h0, h1⟩ := trodAll_two hA
  obtain ⟨A0, c0, a0, rfl, n0, g0, f0, e0, m0, k0⟩ := open_rows_arg 0 hsz rfl rfl (hval 0 25 v0 rfl rfl) h0 (fun x hx => hlt x (by simp [hx]))
  obtain ⟨A1, c1, a1, rfl, n1, g1, f1, e1, m1, k1⟩ := open_changes_arg 1 hsz rfl rfl (hval 1 67 v1 rfl rfl) h1 (fun x hx => hlt x (by simp [hx]))
  exact diffTwice_any A0 c0 a0 A1 c1 a1 W ⟨g0, fun r hr => (f0 r hr).1, Nat.le_trans n0 (by decide)⟩ ⟨g1, fun r hr => (f1 r hr).1, Nat.le_trans n1 (by decide)⟩ k1 n1

theorem diffTwice_holds : Rows.DiffTwiceSaid :=
  OpenClaim.holds_of_wide 14 Try.f14 rfl rfl rfl rfl rfl rfl rfl ⟨rfl, rfl, rfl, rfl, rfl⟩ rfl rfl rfl rfl rfl (by kernel_rfl) Try.func14 (by kernel_rfl)
    (of_decide_eq_true (by kernel_rfl)) (by unfold Func.isWrapper; rw [if_neg (of_decide_eq_false (by kernel_rfl))]; exact ⟨rfl, rfl⟩)
    (fun os started H enc _ => diffTwice_lifted os started H enc)

end Go.Proofs.Ytpgdobomcdpdbaa
