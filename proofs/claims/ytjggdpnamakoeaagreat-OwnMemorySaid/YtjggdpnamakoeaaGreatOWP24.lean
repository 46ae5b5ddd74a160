/-
  Several texts in one (merged by a program of mine): Lift2.
-/
import Derived.Test.YtjggdpnamakoeaaGreatOWP23
set_option linter.unusedVariables false
set_option linter.unusedSimpArgs false
set_option linter.unusedSectionVars false
/-
  Beasts and systems as arguments.
-/
namespace Go.Proofs.YtjggdpnamakoeaaGreat
open Go.RowKit Go.ChangeShapes Go.WideShapes Go.ChangeAt Go.Deep

def Beast.Fit (b : Beast) : Prop := Fits b.k ∧ ∀ x ∈ b.v, Fits x
def Sys.Fit (s : Sys) : Prop := ∀ x ∈ s.list, Fits x

set_option maxRecDepth 100000 in
theorem open_beast {H : Type} {enc : TypeId × Value → H} {W : World} {r : Reach} {b0 : Nat} {v : Value} {d : DataW H} {p : List MemPlace}
    (hv : Value.okWide Tryz.prog W r b0 39 v) (h : DataW.Trod enc Tryz.prog W 0 (fun _ => true) true 39 v d p) :
    ∃ b : Beast, v = .agg (ints b.list) ∧ b.v.length = 8 ∧ b.Fit := by
  obtain ⟨xs, rfl, hl, hf⟩ := open_flat 4 Tryz.underlying39 (by kernel_rfl) hv h
  rw [beast_cells] at hl
  match xs, hl with
  | k :: vs, hl => exact ⟨⟨k, vs⟩, rfl, by simpa using hl, hf k (by simp), fun x hx => hf x (by simp [hx])⟩

end Go.Proofs.YtjggdpnamakoeaaGreat
