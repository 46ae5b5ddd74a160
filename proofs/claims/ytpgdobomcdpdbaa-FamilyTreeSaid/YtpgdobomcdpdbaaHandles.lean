/-
  Slices of handles of the call's own.
-/
import Derived.Test.YtpgdobomcdpdbaaOwn
namespace Go.Proofs.Ytpgdobomcdpdbaa
open Go.RowKit

/-- a slice of handles of the call's own, that reads as hs -/
def OwnH (w : World) (B : Nat) (v : Value) (hs : List (Int × Int)) : Prop := w.ownsRow B 36 2 v hs.length (hs.flatMap hC)
theorem OwnH.nil (w : World) (B : Nat) : OwnH w B (.slice none 0 0) [] := World.ownsRow_nil _ _ _ _
theorem OwnH.kept {w w' : World} {B : Nat} {v : Value} {hs : List (Int × Int)} (h : OwnH w B v hs) (hb : Below w.heap.size w w') : OwnH w' B v hs := own_below h hb
theorem OwnH.form {w : World} {B : Nat} {v : Value} {hs : List (Int × Int)} (h : OwnH w B v hs) : ∃ A c, v = .slice A hs.length c ∧ ∀ k, k < hs.length → ∃ g, A = some ⟨g, 0, none⟩ ∧ B ≤ g ∧ g < w.heap.size ∧
    row? w g (k * 2) 2 = some (ints [(hs.getD k (0, 0)).1, (hs.getD k (0, 0)).2]) ∧ w.cell? ⟨g, k * 2, none⟩ = some (.int .i64 (hs.getD k (0, 0)).1) ∧ w.cell? ⟨g, k * 2 + 1, none⟩ = some (.int .i64 (hs.getD k (0, 0)).2) := by
  obtain ⟨A, c, rfl, hc1, hc2, hA⟩ := own_form h
  refine ⟨A, c, rfl, fun k hk => ?_⟩
  obtain ⟨g, rfl⟩ := hA (by omega)
  have hgd : hs.getD k (0, 0) = hs[k] := by simp [List.getD, List.getElem?_eq_getElem hk]
  have hr := own_row h hk
  rw [flat_at hC_len hs k hk] at hr
  have hlt := h.lt g rfl
  refine ⟨g, rfl, hlt.1, hlt.2, by rw [hgd]; exact hr, ?_, ?_⟩
  · rw [World.ownsRow.cellAt h (k * 2) (by omega), ← Nat.add_zero (k * 2), flat_get hC_len hs k 0 hk (by omega), hgd]; rfl
  · rw [World.ownsRow.cellAt h (k * 2 + 1) (by omega), flat_get hC_len hs k 1 hk (by omega), hgd]; rfl

theorem handle_parts : (Try.prog.info? 36).map (fun i => (i.zero, i.size, i.bytes)) = some (some (.agg #[.int .i64 0, .int .i64 0]), 2, 16) := by kernel_rfl

/-- one handle appended -/
theorem wpList_append_h {w : World} {ops : Array Oper} {rest : List Oper} {o : Oper} {a : Act} {Q : Exit → Act → World → Prop} (hgd : o.guard = none) (s x : Operand)
    (ho : o.op = .call { callee := .builtin .append, args := #[s, x], argTypes := #[28, 28] })
    (base : Nat) (v : Value) (hs : List (Int × Int)) (hv : a.eval s = v) (hown : OwnH w base v hs) (y : Int × Int) (hx : a.eval x = .slice (some ⟨w.heap.size, 0, none⟩) 1 1)
    (hlen : hs.length + 1 ≤ 1000000) (hbase : base ≤ w.heap.size)
    (h : ∀ v' w', OwnH w' base v' (hs ++ [y]) → (w.alloc (.cells #[.int .i64 y.1, .int .i64 y.2] 36)).grownBy w' v.ownBlock → Below base w w' → wpList Try.prog ops Q rest (a.put o.dst v') w') :
    wpList Try.prog ops Q (o :: rest) a (w.alloc (.cells #[.int .i64 y.1, .int .i64 y.2] 36)) := by
  obtain ⟨i0, hi0, hz0, hz1, hz2⟩ := info_parts handle_parts
  refine wpList_append1 hgd s x 28 ho base 36 i0 _ 2 16 Try.underlying28 hi0 hz0 hz1 hz2 rfl (by decide) v hs.length _ hv hown [.int .i64 y.1, .int .i64 y.2] hx rfl (by simp [Value.oneCell']) (by unfold maxLen; omega) (by omega) hbase ?_
  intro v' w' h1 h2 h3
  exact h v' w' (by unfold OwnH; rw [List.length_append, List.flatMap_append]; exact h1) h2 h3

end Go.Proofs.Ytpgdobomcdpdbaa
