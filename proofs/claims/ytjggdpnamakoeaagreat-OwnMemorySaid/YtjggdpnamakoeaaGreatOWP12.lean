/-
  Several texts in one (merged by a program of mine): OpsIn, DiffIn.
-/
import Derived.Test.YtjggdpnamakoeaaGreatOWP11
set_option linter.unusedVariables false
set_option linter.unusedSimpArgs false
set_option linter.unusedSectionVars false
/-
  Ops, rows and changes as lists of ints, and slices of them as they are read.
-/
namespace Go.Proofs.YtjggdpnamakoeaaGreat
open Go.RowKit

/-- an op -/
structure OpM where
  d : Int
  b : Beast
  a : Hd
  t : Hd
  k : Int
  n : Int
def OpM.list (o : OpM) : List Int := [o.d] ++ o.b.list ++ [o.a.1, o.a.2, o.t.1, o.t.2, o.k, o.n]
def toOp (r : List Int) : OpM := ⟨r.getD 0 0, ⟨r.getD 1 0, (r.drop 2).take 8⟩, (r.getD 10 0, r.getD 11 0), (r.getD 12 0, r.getD 13 0), r.getD 14 0, r.getD 15 0⟩
theorem toOp_list {r : List Int} (h : r.length = 16) : (toOp r).list = r ∧ (toOp r).b.v.length = 8 := by
  match r, h with
  | [_, _, _, _, _, _, _, _, _, _, _, _, _, _, _, _], _ => exact ⟨rfl, rfl⟩
def OpsIn (w : World) (B : Nat) (A : Option Addr) (os : List OpM) : Prop := Chunks w B 16 A (os.map OpM.list)
theorem OpsIn.below {w w' : World} {B : Nat} {A : Option Addr} {ss : List OpM} (h : OpsIn w B A ss) (hb : Below B w w') : OpsIn w' B A ss := Chunks.below h hb
theorem OpsIn.at_ {w : World} {B : Nat} {A : Option Addr} {ss : List OpM} (h : OpsIn w B A ss) {k : Nat} (hk : k < ss.length) :
    ∃ b o, A = some ⟨b, o, none⟩ ∧ b < B ∧ row? w b (o + k * 16) 16 = some (ints (OpM.list ss[k])) := by
  obtain ⟨b, o, e, hb, hr⟩ := Chunks.at_ h (k := k) (by simpa using hk)
  exact ⟨b, o, e, hb, by simpa using hr⟩
theorem OpM.len {o : OpM} (h : o.b.v.length = 8) : o.list.length = 16 := by simp [OpM.list, Beast.list, h]

end Go.Proofs.YtjggdpnamakoeaaGreat

/-
  Rows and changes as lists of ints, and slices of them as they are read.
-/
namespace Go.Proofs.YtjggdpnamakoeaaGreat
open Go.RowKit

/-- nine ints -/
def fix9 (b : List Int) : List Int := (List.range 9).map fun i => b.getD i 0
theorem nine {l : List Int} (h : l.length = 9) : ∃ a b c d e f g i j : Int, l = [a, b, c, d, e, f, g, i, j] := by
  match l, h with
  | [a, b, c, d, e, f, g, i, j], _ => exact ⟨a, b, c, d, e, f, g, i, j, rfl⟩
theorem fix9_len (b : List Int) : (fix9 b).length = 9 := by simp [fix9]
theorem fix9_eq {b : List Int} (h : b.length = 9) : fix9 b = b := by
  obtain ⟨a, b, c, d, e, f, g, i, j, rfl⟩ := nine h; rfl
def rL (r : RowD) : List Int := r.1.1 :: r.1.2 :: fix9 r.2
def cL (c : Chg) : List Int := c.at_.1 :: c.at_.2 :: (fix9 c.old ++ fix9 c.now)
def RowOk (r : RowD) : Prop := r.2.length = 9
def ChgOk (c : Chg) : Prop := c.old.length = 9 ∧ c.now.length = 9
theorem rL_len (r : RowD) : (rL r).length = 11 := by unfold rL; simp [fix9_len]
theorem cL_len (c : Chg) : (cL c).length = 20 := by unfold cL; simp [fix9_len]
theorem rL_eq {r : RowD} (h : RowOk r) : rL r = r.1.1 :: r.1.2 :: r.2 := by unfold rL; rw [fix9_eq h]
theorem cL_eq {c : Chg} (h : ChgOk c) : cL c = c.at_.1 :: c.at_.2 :: (c.old ++ c.now) := by unfold cL; rw [fix9_eq h.1, fix9_eq h.2]
theorem rL_inj {r s : RowD} (hr : RowOk r) (hs : RowOk s) (h : rL r = rL s) : r = s := by
  rw [rL_eq hr, rL_eq hs] at h
  injection h with h1 h
  injection h with h2 h
  exact Prod.ext (Prod.ext h1 h2) h
theorem cL_inj {c d : Chg} (hc : ChgOk c) (hd : ChgOk d) (h : cL c = cL d) : c = d := by
  rw [cL_eq hc, cL_eq hd] at h
  obtain ⟨⟨c1, c2⟩, c3, c4⟩ := c
  obtain ⟨⟨d1, d2⟩, d3, d4⟩ := d
  injection h with h1 h
  injection h with h2 h
  simp only at h1 h2 h
  obtain ⟨h3, h4⟩ := List.append_inj h (hc.1.trans hd.1.symm)
  rw [h1, h2, h3, h4]
def toRow (r : List Int) : RowD := ((r.getD 0 0, r.getD 1 0), r.drop 2)
def toChg (r : List Int) : Chg := ⟨(r.getD 0 0, r.getD 1 0), (r.drop 2).take 9, r.drop 11⟩
theorem toRow_list {r : List Int} (h : r.length = 11) : rL (toRow r) = r ∧ RowOk (toRow r) := by
  match r, h with
  | [_, _, _, _, _, _, _, _, _, _, _], _ => exact ⟨rfl, rfl⟩
theorem toChg_list {r : List Int} (h : r.length = 20) : cL (toChg r) = r ∧ ChgOk (toChg r) := by
  match r, h with
  | [_, _, _, _, _, _, _, _, _, _, _, _, _, _, _, _, _, _, _, _], _ => exact ⟨rfl, rfl, rfl⟩
def RowsIn (w : World) (B : Nat) (A : Option Addr) (rs : List RowD) : Prop := Chunks w B 11 A (rs.map rL)
def ChgsIn (w : World) (B : Nat) (A : Option Addr) (cs : List Chg) : Prop := Chunks w B 20 A (cs.map cL)
theorem RowsIn.at_ {w : World} {B : Nat} {A : Option Addr} {rs : List RowD} (h : RowsIn w B A rs) {k : Nat} (hk : k < rs.length) :
    ∃ b o, A = some ⟨b, o, none⟩ ∧ b < B ∧ row? w b (o + k * 11) 11 = some (ints (rL rs[k])) := by
  obtain ⟨b, o, e, hb, hr⟩ := Chunks.at_ h (k := k) (by simpa using hk)
  exact ⟨b, o, e, hb, by simpa using hr⟩
theorem ChgsIn.at_ {w : World} {B : Nat} {A : Option Addr} {cs : List Chg} (h : ChgsIn w B A cs) {k : Nat} (hk : k < cs.length) :
    ∃ b o, A = some ⟨b, o, none⟩ ∧ b < B ∧ row? w b (o + k * 20) 20 = some (ints (cL cs[k])) := by
  obtain ⟨b, o, e, hb, hr⟩ := Chunks.at_ h (k := k) (by simpa using hk)
  exact ⟨b, o, e, hb, by simpa using hr⟩
end Go.Proofs.YtjggdpnamakoeaaGreat
