/- The changes from a first list to a second and on to a third lead from the first to the third: the law DiffThrough returns true for every three lists of rows; no condition. -/
import Derived.Test.YtpgdobomcdpdbaaDPack40
namespace Go.Proofs.Ytpgdobomcdpdbaa
open Go.RowKit Go.ChangeShapes Go.WideShapes Go.ChangeAt Go.Deep

set_option maxRecDepth 100000 in
theorem diffThrough_lifted (os : Os) (started : os.Started) (H : Type) (enc : TypeId × Value → H) :
    ReturnsInHanded {} Try.checked os 12 .any (Rows.diffThroughSpec.pre6 enc Try.prog Try.f12 Rows.diffThroughRow.domain false) (Rows.diffThroughSpec.post enc Try.prog Try.f12 false true false false) := by
  refine law_lift started (by kernel_rfl) Try.func12 (by decide +kernel) rfl rfl (fun ds h => ?_)
    (ChangeSpec.witness6 (enc := enc) (C := Try.checked) false ⟨#[], #[.slice none 0 0, .slice none 0 0, .slice none 0 0], []⟩ 8 (by kernel_rfl) (by kernel_rfl) (by kernel_rfl) (by kernel_rfl)) ?_
  · match ds, h with
    | [_, _, _], _ => rfl
  intro W base args ds p hval hA hlt hsz
  rw [Try.params12] at hA hval hsz
  obtain ⟨v0, v1, v2, d0, d1, d2, p0, p1, p2, rfl, rfl, rfl, h0, h1, h2⟩ := trodAll_three hA
  obtain ⟨A0, c0, a0, rfl, n0, g0, f0, e0, m0, k0⟩ := open_rows_arg 0 hsz rfl rfl (hval 0 25 v0 rfl rfl) h0 (fun x hx => hlt x (by simp [hx]))
  obtain ⟨A1, c1, a1, rfl, n1, g1, f1, e1, m1, k1⟩ := open_rows_arg 1 hsz rfl rfl (hval 1 25 v1 rfl rfl) h1 (fun x hx => hlt x (by simp [hx]))
  obtain ⟨A2, c2, a2, rfl, n2, g2, f2, e2, m2, k2⟩ := open_rows_arg 2 hsz rfl rfl (hval 2 25 v2 rfl rfl) h2 (fun x hx => hlt x (by simp [hx]))
  exact diffThrough_any A0 c0 a0 A1 c1 a1 A2 c2 a2 W ⟨g0, fun r hr => (f0 r hr).1, Nat.le_trans n0 (by decide)⟩ ⟨g1, fun r hr => (f1 r hr).1, Nat.le_trans n1 (by decide)⟩ ⟨g2, fun r hr => (f2 r hr).1, Nat.le_trans n2 (by decide)⟩

theorem diffThrough_holds : Rows.DiffThroughSaid :=
  OpenClaim.holds_of_wide 12 Try.f12 rfl rfl rfl rfl rfl rfl rfl ⟨rfl, rfl, rfl, rfl, rfl⟩ rfl rfl rfl rfl rfl (by kernel_rfl) Try.func12 (by kernel_rfl)
    (of_decide_eq_true (by kernel_rfl)) (by unfold Func.isWrapper; rw [if_neg (of_decide_eq_false (by kernel_rfl))]; exact ⟨rfl, rfl⟩)
    (fun os started H enc _ => diffThrough_lifted os started H enc)

end Go.Proofs.Ytpgdobomcdpdbaa
