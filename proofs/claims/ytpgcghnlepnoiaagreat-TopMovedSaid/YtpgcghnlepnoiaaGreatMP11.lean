/-
  Several texts in one (merged by a program of mine): OpsIn.
-/
import Derived.Test.YtpgcghnlepnoiaaGreatMP10
set_option linter.unusedVariables false
set_option linter.unusedSimpArgs false
set_option linter.unusedSectionVars false
/-
  Ops, rows and changes as lists of ints, and slices of them as they are read.
-/
namespace Go.Proofs.YtpgcghnlepnoiaaGreat
open Go.RowKit

/-- an op -/
structure OpM where
  d : Int
  b : Beast
  a : Hd
  t : Hd
  k : Int
  n : Int
def OpM.list (o : OpM) : List Int := [o.d] ++ o.b.list ++ [o.a.1, o.a.2, o.t.1, o.t.2, o.k, o.n]
def toOp (r : List Int) : OpM := ⟨r.getD 0 0, ⟨r.getD 1 0, (r.drop 2).take 8⟩, (r.getD 10 0, r.getD 11 0), (r.getD 12 0, r.getD 13 0), r.getD 14 0, r.getD 15 0⟩
theorem toOp_list {r : List Int} (h : r.length = 16) : (toOp r).list = r ∧ (toOp r).b.v.length = 8 := by
  match r, h with
  | [_, _, _, _, _, _, _, _, _, _, _, _, _, _, _, _], _ => exact ⟨rfl, rfl⟩
def OpsIn (w : World) (B : Nat) (A : Option Addr) (os : List OpM) : Prop := Chunks w B 16 A (os.map OpM.list)
theorem OpsIn.below {w w' : World} {B : Nat} {A : Option Addr} {ss : List OpM} (h : OpsIn w B A ss) (hb : Below B w w') : OpsIn w' B A ss := Chunks.below h hb
theorem OpsIn.at_ {w : World} {B : Nat} {A : Option Addr} {ss : List OpM} (h : OpsIn w B A ss) {k : Nat} (hk : k < ss.length) :
    ∃ b o, A = some ⟨b, o, none⟩ ∧ b < B ∧ row? w b (o + k * 16) 16 = some (ints (OpM.list ss[k])) := by
  obtain ⟨b, o, e, hb, hr⟩ := Chunks.at_ h (k := k) (by simpa using hk)
  exact ⟨b, o, e, hb, by simpa using hr⟩
theorem OpM.len {o : OpM} (h : o.b.v.length = 8) : o.list.length = 16 := by simp [OpM.list, Beast.list, h]

end Go.Proofs.YtpgcghnlepnoiaaGreat
