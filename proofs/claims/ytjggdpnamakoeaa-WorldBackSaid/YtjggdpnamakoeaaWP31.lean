/-
  Several texts in one (merged by a program of mine): FamSort.
-/
import Derived.Test.YtjggdpnamakoeaaWP30
/-
  The sorts of a family: handles by family.Compare, bonds by their children; one element appended among other things in memory.
-/
namespace Go.Proofs.Ytjggdpnamakoeaa
open Go.RowKit Go.Sort

section
variable {G : Nat → Prop} {w0 w w' : World} {l : List Assn}
/-- one element more -/
theorem In.append1 {E : TypeId} {size n : Nat} {v v' : Value} {xs news : List Value} {o : Obj} (h : In G w0 (RowA E size v n xs :: l) w) (hown : w'.ownsRow 0 E size v' (n + 1) (xs ++ news)) (hg : (w.alloc o).grownBy w' v.ownBlock)
    (hor : v'.ownBlock = v.ownBlock ∨ v'.ownBlock = some (w.heap.size + 1)) : In G w0 (RowA E size v' (n + 1) (xs ++ news) :: l) w' := by
  obtain ⟨F1, ⟨h1, h2⟩, _, hback⟩ := h.open_
  refine hback (A' := RowA E size v' (n + 1) (xs ++ news)) ⟨hown, fun k hk => ?_⟩ ((Only.refl.alloc o).trans' (Only.grown (F := F1) hg fun k hk => h2 k hk) fun k _ hk => hk)
  rcases hor with e | e
  · exact Or.inl (h2 k (by rw [← e]; exact hk))
  · rw [hk] at e
    injection e with e
    exact Or.inr ⟨by omega, (World.ownsRow.lt hown k hk).2⟩
theorem In.appendH {v v' : Value} {cs : List Hd} {x : Hd} {o : Obj} (h : In G w0 (RowH v cs :: l) w) (hown : w'.ownsRow 0 24 2 v' (cs.length + 1) (cs.flatMap hC ++ [.int .i64 x.1, .int .i64 x.2])) (hg : (w.alloc o).grownBy w' v.ownBlock)
    (hor : v'.ownBlock = v.ownBlock ∨ v'.ownBlock = some (w.heap.size + 1)) : In G w0 (RowH v' (cs ++ [x]) :: l) w' := by
  have := h.append1 hown hg hor
  unfold RowH
  rw [List.length_append, List.flatMap_append]
  exact this
theorem In.rowAt {E : TypeId} {size n : Nat} {v : Value} {xs : List Value} (h : In G w0 (RowA E size v n xs :: l) w) : w.ownsRow 0 E size v n xs := h.sep.head.1
theorem In.nilRow (h : In G w0 l w) (E : TypeId) (size : Nat) : In G w0 (RowA E size (.slice none 0 0) 0 [] :: l) w :=
  h.add0 ⟨World.ownsRow_nil _ _ _ _, fun k hk => by simp [Value.ownBlock] at hk⟩

theorem swoH : SWO (ltOf cmpH) where
  irrefl x := by unfold ltOf; rw [cmpH_neg]; unfold hLt; simp
  trans x y z h1 h2 := by
    unfold ltOf at *
    rw [cmpH_neg] at *
    unfold hLt at *
    simp only [Bool.or_eq_true, Bool.and_eq_true, decide_eq_true_eq] at *
    omega
  ntrans x y z h1 h2 := by
    unfold ltOf at *
    rw [cmpH_neg] at *
    unfold hLt at *
    simp only [Bool.or_eq_false_iff, Bool.and_eq_false_iff, decide_eq_false_iff_not] at *
    omega
theorem pair_hLe {α : Type} {key : α → Hd} {ys : List α} (h : ys.Pairwise fun a b => decide (cmpH (key b) (key a) < 0) = false) : ys.Pairwise fun a b => kLe key a b = true :=
  h.imp fun {a b} h => by unfold kLe hLe; rw [← cmpH_neg, h]; rfl


def bC (b : Hd × Hd) : List Value := [.int .i64 b.1.1, .int .i64 b.1.2, .int .i64 b.2.1, .int .i64 b.2.2]
def bL (b : Hd × Hd) : List Int := [b.1.1, b.1.2, b.2.1, b.2.2]
theorem bC_len (b : Hd × Hd) : (bC b).length = 4 := rfl
theorem bL_len (b : Hd × Hd) : (bL b).length = 4 := rfl
end

end Go.Proofs.Ytjggdpnamakoeaa
