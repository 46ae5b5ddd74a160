/-
  Several texts in one (merged by a program of mine): Lift2.
-/
import Derived.Test.YtpgcghnlepnoiaaGreatMP24
set_option linter.unusedVariables false
set_option linter.unusedSimpArgs false
set_option linter.unusedSectionVars false
/-
  Beasts and systems as arguments.
-/
namespace Go.Proofs.YtpgcghnlepnoiaaGreat
open Go.RowKit Go.ChangeShapes Go.WideShapes Go.ChangeAt Go.Deep

def Beast.Fit (b : Beast) : Prop := Fits b.k ∧ ∀ x ∈ b.v, Fits x
def Sys.Fit (s : Sys) : Prop := ∀ x ∈ s.list, Fits x

set_option maxRecDepth 100000 in
theorem open_beast {H : Type} {enc : TypeId × Value → H} {W : World} {r : Reach} {b0 : Nat} {v : Value} {d : DataW H} {p : List MemPlace}
    (hv : Value.okWide Tryz.prog W r b0 25 v) (h : DataW.Trod enc Tryz.prog W 0 (fun _ => true) true 25 v d p) :
    ∃ b : Beast, v = .agg (ints b.list) ∧ b.v.length = 8 ∧ b.Fit := by
  obtain ⟨xs, rfl, hl, hf⟩ := open_flat 4 Tryz.underlying25 (by kernel_rfl) hv h
  rw [beast_cells] at hl
  match xs, hl with
  | k :: vs, hl => exact ⟨⟨k, vs⟩, rfl, by simpa using hl, hf k (by simp), fun x hx => hf x (by simp [hx])⟩
set_option maxRecDepth 100000 in
theorem open_sys {H : Type} {enc : TypeId × Value → H} {W : World} {r : Reach} {b0 : Nat} {v : Value} {d : DataW H} {p : List MemPlace}
    (hv : Value.okWide Tryz.prog W r b0 54 v) (h : DataW.Trod enc Tryz.prog W 0 (fun _ => true) true 54 v d p) :
    ∃ s : Sys, v = .agg (ints s.list) ∧ s.Fit := by
  obtain ⟨xs, rfl, hl, hf⟩ := open_flat 4 Tryz.underlying54 (by kernel_rfl) hv h
  rw [sys_cells] at hl
  match xs, hl with
  | [a, b, c, d, e, f, g], _ => exact ⟨⟨⟨a, b, c⟩, d, e, f, g⟩, rfl, hf⟩

end Go.Proofs.YtpgcghnlepnoiaaGreat
