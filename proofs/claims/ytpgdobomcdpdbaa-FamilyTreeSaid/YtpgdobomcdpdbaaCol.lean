/-
  A struct of one slice, behind a pointer: read, appended to, written, cut.
-/
import Derived.Test.YtpgdobomcdpdbaaOwn
namespace Go.Proofs.Ytpgdobomcdpdbaa
open Go.RowKit

/-- the one cell of block p is a slice of one's own, that reads as xs; what is theirs is in F -/
def ColAt {α : Type} (T E : TypeId) (size : Nat) (enc : α → List Value) (w : World) (p : Nat) (xs : List α) (F : Nat → Prop) : Prop :=
  ∃ v, Blk w p T #[v] ∧ w.ownsRow 0 E size v xs.length (xs.flatMap enc) ∧ v.ownBlock ≠ some p ∧ F p ∧ ∀ k, v.ownBlock = some k → F k

section
variable {α : Type} {T E : TypeId} {size : Nat} {enc : α → List Value} {w w' w3 : World} {p : Nat} {xs : List α} {F G : Nat → Prop}

theorem ColAt.only (h : ColAt T E size enc w p xs F) (ho : Only G w w') (hd : ∀ k, F k → ¬ G k) : ColAt T E size enc w' p xs F := by
  obtain ⟨v, h1, h2, h3, h4, h5⟩ := h
  exact ⟨v, ho.blk h1 (hd p h4), ho.own h2 fun k hk => hd k (h5 k hk), h3, h4, h5⟩
theorem ColAt.mono (h : ColAt T E size enc w p xs F) (hd : ∀ k, k < w.heap.size → F k → G k) : ColAt T E size enc w p xs G := by
  obtain ⟨v, h1, h2, h3, h4, h5⟩ := h
  exact ⟨v, h1, h2, h3, hd p h1.lt h4, fun k hk => hd k (h2.lt k hk).2 (h5 k hk)⟩
theorem ColAt.lt (h : ColAt T E size enc w p xs F) : p < w.heap.size := by
  obtain ⟨v, h1, _⟩ := h; exact h1.lt
theorem ColAt.after (h : ColAt T E size enc w p xs F) (hb : Below w.heap.size w w') : ColAt T E size enc w' p xs F := by
  obtain ⟨v, h1, h2, h3, h4, h5⟩ := h
  exact ⟨v, h1.after hb, h2.kept (row := none) ⟨hb.os, hb.tape, hb.output, hb.size, fun k hk _ => hb.block k hk⟩ (by cases v.ownBlock <;> simp), h3, h4, h5⟩
/-- what lies there -/
theorem ColAt.slice (h : ColAt T E size enc w p xs F) : ∃ A c, w.cell? ⟨p, 0, none⟩ = some (.slice A xs.length c) ∧ w.frozen? ⟨p, 0, none⟩ = false ∧ xs.length ≤ c ∧ c ≤ maxLen ∧
    w.ownsRow 0 E size (.slice A xs.length c) xs.length (xs.flatMap enc) ∧ (Value.slice A xs.length c).ownBlock ≠ some p ∧ F p ∧ ∀ k, (Value.slice A xs.length c).ownBlock = some k → F k := by
  obtain ⟨v, h1, h2, h3, h4, h5⟩ := h
  obtain ⟨A, c, rfl, hc1, hc2, hA⟩ := own_form h2
  exact ⟨A, c, h1.cell 0, h1.frozen 0, hc1, hc2, h2, h3, h4, h5⟩

/-- 'x.l = append(x.l, e)': behind the append; and behind the store -/
theorem ColAt.append (h : ColAt T E size enc w p xs F) {v v' : Value} {o : Obj} {x : α} (hv : w.cell? ⟨p, 0, none⟩ = some v) (hown3 : w3.ownsRow 0 E size v' (xs.length + 1) (xs.flatMap enc ++ enc x)) (hg3 : (w.alloc o).grownBy w3 v.ownBlock)
    (hat : v'.ownBlock = v.ownBlock ∨ v'.ownBlock = some (w.heap.size + 1)) :
    w3.cell? ⟨p, 0, none⟩ = some v ∧ w3.frozen? ⟨p, 0, none⟩ = false ∧ ColAt T E size enc (w3.setCell ⟨p, 0, none⟩ v') p (xs ++ [x]) (fun k => F k ∨ w.heap.size ≤ k) ∧ Only F w (w3.setCell ⟨p, 0, none⟩ v') := by
  obtain ⟨u, h1, h2, h3, h4, h5⟩ := h
  have hu : u = v := by have := h1.cell 0; rw [hv] at this; simpa using this.symm
  subst hu
  have hO3 : Only (fun k => u.ownBlock = some k) w w3 := (Only.refl.alloc _).trans (Only.grown hg3 fun k hk => hk)
  have hB3 := hO3.blk h1 h3
  have hN3 : v'.ownBlock ≠ some p := by
    rcases hat with e | e
    · rw [e]; exact h3
    · rw [e]; intro h; injection h with h; have := h1.lt; omega
  refine ⟨hB3.cell 0, hB3.frozen 0, ⟨_, hB3.set 0 _, ?_, hN3, Or.inl h4, fun k hk => ?_⟩, (hO3.mono fun k _ hk => h5 k hk).setCell (Or.inl h4) _ _⟩
  · rw [List.length_append, List.flatMap_append]
    have := ownsRow_setCell_other (a := ⟨p, 0, none⟩) hown3 hN3 v'
    simpa using this
  · rcases hat with e | e
    · rw [e] at hk; exact Or.inl (h5 k hk)
    · rw [e] at hk; injection hk with hk; exact Or.inr (by omega)
end

end Go.Proofs.Ytpgdobomcdpdbaa
