/-
  A table in memory: a struct, its handles' slice, a map of columns, and the columns.
-/
import Derived.Test.YtpgdobomcdpdbaaTableCol
import Derived.Test.YtpgdobomcdpdbaaMapSep
import Derived.Test.YtpgdobomcdpdbaaSepMore
import Derived.Test.YtpgdobomcdpdbaaBeastMath
import Derived.Test.YtpgdobomcdpdbaaCloneInt
import Derived.Test.YtpgdobomcdpdbaaCloneHandle
namespace Go.Proofs.Ytpgdobomcdpdbaa
open Go.RowKit

/-- two things as one -/
def Pair (A B : Assn) : Assn where
  at_ w F := Sep [A, B] w F
  frame h ho hd := h.frame ho hd
  cut h hd := h.cut hd
section
variable {A B : Assn} {l : List Assn} {F : Nat → Prop} {w0 w w' : World}
theorem In.join (h : In F w0 (A :: B :: l) w) : In F w0 (Pair A B :: l) w := by
  obtain ⟨⟨F1, F2, h1, ⟨F3, F4, g1, g2, g3, g4⟩, h3, h4⟩, ho⟩ := h
  refine ⟨⟨fun k => F1 k ∨ F3 k, F4, ⟨F1, F3, h1, ⟨F3, fun _ => False, g1, trivial, fun _ _ h => h, fun k h => by rcases h with h | h; exact h; exact h.elim⟩, fun k a b => h3 k a (g4 k (Or.inl b)), fun k h => h⟩, g2, fun k a b => ?_, fun k h => ?_⟩, ho⟩
  · rcases a with a | a
    · exact h3 k a (g4 k (Or.inr b))
    · exact g3 k a b
  · rcases h with (h | h) | h
    · exact h4 k (Or.inl h)
    · exact h4 k (Or.inr (g4 k (Or.inl h)))
    · exact h4 k (Or.inr (g4 k (Or.inr h)))
theorem In.split (h : In F w0 (Pair A B :: l) w) : In F w0 (A :: B :: l) w := by
  obtain ⟨⟨F1, F2, ⟨F3, F4, g1, ⟨F5, F6, e1, _, e3, e4⟩, g3, g4⟩, h2, h3, h4⟩, ho⟩ := h
  refine ⟨⟨F3, fun k => F5 k ∨ F2 k, g1, ⟨F5, F2, e1, h2, fun k a b => h3 k (g4 k (Or.inr (e4 k (Or.inl a)))) b, fun k h => h⟩, fun k a b => ?_, fun k h => ?_⟩, ho⟩
  · rcases b with b | b
    · exact g3 k a (e4 k (Or.inl b))
    · exact h3 k (g4 k (Or.inl a)) b
  · rcases h with h | h | h
    · exact h4 k (Or.inl (g4 k (Or.inl h)))
    · exact h4 k (Or.inl (g4 k (Or.inr (e4 k (Or.inl h)))))
    · exact h4 k (Or.inr h)
/-- a slice in a struct's cell was appended to, or cut -/
theorem In.added {p o n n' size : Nat} {T E : TypeId} {cs : Array Value} {v : Value} {xs xs' : List Value} (h : In F w0 (Box p T cs :: RowA E size v n xs :: l) w) (he : AddEnd w w' p T cs o v E size n' xs') :
    ∃ v', In F w0 (Box p T (cs.setIfInBounds o v') :: RowA E size v' n' xs' :: l) w' := by
  obtain ⟨v', h1, h2, h3, h4, h5⟩ := he
  obtain ⟨F1, hA, hF, hback⟩ := h.join.open_
  obtain ⟨G1, G2, ⟨g1, g1p⟩, ⟨G3, G4, g2, _, g3, g4⟩, g5, g6⟩ := hA
  refine ⟨v', In.split (hback (A' := Pair (Box p T (cs.setIfInBounds o v')) (RowA E size v' n' xs')) ?_ (h5.mono fun k _ hk => ?_))⟩
  · refine ⟨(· = p), fun k => v'.ownBlock = some k, ⟨h1, rfl⟩, ⟨fun k => v'.ownBlock = some k, fun _ => False, ⟨h2, fun k hk => hk⟩, trivial, fun _ _ h => h, fun k h => by rcases h with h | h; exact h; exact h.elim⟩, fun k a b => h3 (by rw [← a]; exact b), fun k hk => ?_⟩
    rcases hk with hk | hk
    · rw [hk]; exact Or.inl (g6 p (Or.inl g1p))
    · rcases h4 k hk with h | h
      · exact Or.inl (g6 k (Or.inr (g4 k (Or.inl (g2.2 k h)))))
      · exact Or.inr ⟨h, (World.ownsRow.lt h2 k hk).2⟩
  · rcases hk with hk | hk
    · rw [hk]; exact g6 p (Or.inl g1p)
    · exact g6 k (Or.inr (g4 k (Or.inl (g2.2 k hk))))
/-- what a method needs to know of such a slice -/
theorem In.sliceAt {p n size : Nat} {T E : TypeId} {cs : Array Value} {v : Value} {xs : List Value} (h : In F w0 (Box p T cs :: RowA E size v n xs :: l) w) : Blk w p T cs ∧ w.ownsRow 0 E size v n xs ∧ v.ownBlock ≠ some p := by
  obtain ⟨⟨F1, F2, ⟨h1, h1p⟩, ⟨F3, F4, g1, g2, g3, g4⟩, h3, h4⟩, ho⟩ := h
  exact ⟨h1, g1.1, fun e => h3 p h1p (g4 p (Or.inl (g1.2 p e)))⟩
theorem ColAt.parts {α : Type} {T E : TypeId} {size : Nat} {enc : α → List Value} {p : Nat} {xs : List α} (h : ColAt T E size enc w p xs F) : ∃ v, Blk w p T #[v] ∧ w.ownsRow 0 E size v xs.length (xs.flatMap enc) ∧ v.ownBlock ≠ some p ∧
    ∀ (ys : List α) (w' : World), AddEnd w w' p T #[v] 0 v E size ys.length (ys.flatMap enc) → ColAt T E size enc w' p ys (Plus F w w') ∧ Only F w w' := by
  obtain ⟨v, h1, h2, h3, h4, h5⟩ := h
  refine ⟨v, h1, h2, h3, fun ys w' he => ?_⟩
  obtain ⟨v', g1, g2, g3, g4, g5⟩ := he
  refine ⟨⟨v', g1, g2, g3, Or.inl h4, fun k hk => ?_⟩, g5.mono fun k _ hk => ?_⟩
  · rcases g4 k hk with h | h
    · exact Or.inl (h5 k h)
    · exact Or.inr ⟨h, (World.ownsRow.lt g2 k hk).2⟩
  · rcases hk with hk | hk
    · rw [hk]; exact h4
    · exact h5 k hk
end

/-- a row: a handle, and a beast -/
structure RowM where
  h : Int × Int
  b : Beast
def RowM.list (r : RowM) : List Int := [r.h.1, r.h.2] ++ r.b.list
def zeroRow : RowM := ⟨(0, 0), ⟨0, [0, 0, 0, 0, 0, 0, 0, 0]⟩⟩

def intC (x : Int) : List Value := [.int .i64 x]
abbrev ptrV (b : Nat) : Value := .pointer (some ⟨b, 0, none⟩)
@[go_sem] theorem ptrV_eq (b : Nat) : ptrV b = .pointer (some ⟨b, 0, none⟩) := rfl
/-- the kinds of a table -/
def tks (K : Int) : List Nat := kinds K.toNat
theorem tks_nodup (K : Int) : (tks K).Nodup := kinds_nodup _
def colOf (rows : List RowM) (k : Nat) : List Int := rows.map fun r => r.b.v.getD k 0
abbrev ColA (b : Nat) (xs : List Int) : Assn := Col 96 3 1 intC b xs
abbrev PtrMap (t : Nat) (m : List (Int × Nat)) : Assn := MapA (Value.int .i64) ptrV goodI t m
/-- rows that may lie in a table of the kinds K -/
def TRows (K : Int) (rows : List RowM) : Prop := ∀ r ∈ rows, r.b.k = K ∧ r.b.v.length = 8 ∧ ∀ k, k < 8 → k ∉ tks K → r.b.v.getD k 0 = 0
/-- the things of a table -/
def tblParts (p : Nat) (K : Int) (hv : Value) (mb : Nat) (cb : Nat → Nat) (rows : List RowM) (col : Nat → List Int) : List Assn :=
  [Box p 90 #[.int .i64 K, hv, .map (some mb)], RowA 36 2 hv rows.length (rows.flatMap fun r => hC r.h), PtrMap mb ((tks K).map fun k : Nat => ((k : Int), cb k))] ++ (tks K).map fun k => ColA (cb k) (col k)
/-- a table -/
def Tbl (p : Nat) (K : Int) (rows : List RowM) : Assn where
  at_ w F := TRows K rows ∧ (0 ≤ K ∧ K ≤ 255) ∧ ∃ hv mb cb, Sep (tblParts p K hv mb cb rows (colOf rows)) w F
  frame h ho hd := by obtain ⟨h1, h2, hv, mb, cb, hs⟩ := h; exact ⟨h1, h2, hv, mb, cb, hs.frame ho hd⟩
  cut h hd := by obtain ⟨h1, h2, hv, mb, cb, hs⟩ := h; exact ⟨h1, h2, hv, mb, cb, hs.cut hd⟩


theorem In.openTbl {F : Nat → Prop} {w0 w : World} {l : List Assn} {p : Nat} {K : Int} {rows : List RowM} (h : In F w0 (Tbl p K rows :: l) w) :
    TRows K rows ∧ (0 ≤ K ∧ K ≤ 255) ∧ ∃ hv mb cb, In F w0 (tblParts p K hv mb cb rows (colOf rows) ++ l) w := by
  obtain ⟨⟨F1, F2, ⟨hT, hK, hv, mb, cb, hs⟩, h2, h3, h4⟩, ho⟩ := h
  exact ⟨hT, hK, hv, mb, cb, (Sep.join hs h2 h3).cut fun k _ hk => h4 k hk, ho⟩
theorem In.shutTbl {F : Nat → Prop} {w0 w : World} {l : List Assn} {p : Nat} {K : Int} {rows : List RowM} {hv : Value} {mb : Nat} {cb : Nat → Nat} (hT : TRows K rows) (hK : 0 ≤ K ∧ K ≤ 255) (h : In F w0 (tblParts p K hv mb cb rows (colOf rows) ++ l) w) : In F w0 (Tbl p K rows :: l) w := by
  obtain ⟨hs, ho⟩ := h
  obtain ⟨F1, F2, h1, h2, h3, h4⟩ := Sep.part hs
  exact ⟨⟨F1, F2, ⟨hT, hK, hv, mb, cb, h1⟩, h2, h3, h4⟩, ho⟩

end Go.Proofs.Ytpgdobomcdpdbaa
