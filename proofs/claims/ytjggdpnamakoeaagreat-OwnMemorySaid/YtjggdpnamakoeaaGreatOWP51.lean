/-
  Several texts in one (merged by a program of mine): DiffApply.
-/
import Derived.Test.YtjggdpnamakoeaaGreatOWP50
import Derived.Deep.RegionLawGrows
set_option linter.unusedVariables false
set_option linter.unusedSimpArgs false
set_option linter.unusedSectionVars false
/-
  The contract of diff.Apply.
-/
namespace Go.Proofs.YtjggdpnamakoeaaGreat
open Go.RowKit

theorem RowsIn.own {w : World} {v : Value} {rs : List RowD} (h : w.ownsRow 0 49 11 v rs.length (rs.flatMap rC)) : ∃ A c, v = .slice A rs.length c ∧ rs.length ≤ c ∧ c ≤ maxLen ∧ RowsIn w w.heap.size A rs := by
  obtain ⟨A, c, rfl, h1, h2, h3, _⟩ := own_chunks (f := rL) (fun _ => rfl) rL_len h
  exact ⟨A, c, rfl, h1, h2, h3⟩
def rowFor (m : List RowD) (h : Hd) : RowD := (h, (mget m h).getD zeroB)
def rowsTo (m : List RowD) (hs : List Hd) (k : Nat) : List RowD := (hs.take k).map (rowFor m)
theorem rowsTo_succ (m : List RowD) (hs : List Hd) (k : Nat) (h : k < hs.length) : rowsTo m hs (k + 1) = rowsTo m hs k ++ [rowFor m hs[k]] := by
  unfold rowsTo
  rw [List.take_succ_eq_append_getElem h, List.map_append]; rfl
theorem rowFor_ok {m : List RowD} (h : ∀ r ∈ m, RowOk r) (k : Hd) : RowOk (rowFor m k) := by
  unfold rowFor RowOk
  cases e : mget m k with
  | none => rfl
  | some v => exact h _ (mget_mem e)
theorem mput_rows {m : List RowD} (h : ∀ r ∈ m, RowOk r) {k : Hd} {v : List Int} (hv : v.length = 9) : ∀ r ∈ mput m k v, RowOk r := fun r hr => by
  rcases mem_mput hr with rfl | hr
  · exact hv
  · exact h _ hr.1


end Go.Proofs.YtjggdpnamakoeaaGreat
