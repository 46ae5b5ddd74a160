/-
  Several texts in one (merged by a program of mine): SysIn.
-/
import Derived.Test.YtjggdpnamakoeaaGreatOWP9
set_option linter.unusedVariables false
set_option linter.unusedSimpArgs false
set_option linter.unusedSectionVars false
/-
  Slices of systems.
-/
namespace Go.Proofs.YtjggdpnamakoeaaGreat
open Go.RowKit

def zeroSys : Sys := ⟨⟨0, 0, 0⟩, 0, 0, 0, 0⟩
/-- a slice of systems -/
def SysIn (w : World) (B : Nat) (A : Option Addr) (ss : List Sys) : Prop := Chunks w B 7 A (ss.map Sys.list)
theorem SysIn.at_ {w : World} {B : Nat} {A : Option Addr} {ss : List Sys} (h : SysIn w B A ss) {k : Nat} (hk : k < ss.length) :
    ∃ b o, A = some ⟨b, o, none⟩ ∧ b < B ∧ row? w b (o + k * 7) 7 = some (ints (ss.getD k zeroSys).list) := by
  obtain ⟨b, o, e, hlt, hr⟩ := Chunks.at_ h (k := k) (by simpa using hk)
  refine ⟨b, o, e, hlt, ?_⟩
  rw [hr, List.getElem_map]
  simp [List.getD, List.getElem?_eq_getElem hk]
theorem SysIn.below {w w' : World} {B : Nat} {A : Option Addr} {ss : List Sys} (h : SysIn w B A ss) (hb : Below B w w') : SysIn w' B A ss := Chunks.below h hb

/-- seven ints as a system -/
def toSys (r : List Int) : Sys := ⟨⟨r.getD 0 0, r.getD 1 0, r.getD 2 0⟩, r.getD 3 0, r.getD 4 0, r.getD 5 0, r.getD 6 0⟩
theorem toSys_list {r : List Int} (h : r.length = 7) : (toSys r).list = r := by
  match r, h with
  | [_, _, _, _, _, _, _], _ => rfl

end Go.Proofs.YtjggdpnamakoeaaGreat
