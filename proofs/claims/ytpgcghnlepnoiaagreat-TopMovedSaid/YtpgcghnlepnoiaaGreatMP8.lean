/-
  Several texts in one (merged by a program of mine): Chunks.
-/
import Derived.Test.YtpgcghnlepnoiaaGreatMP7
import Derived.Laws.MakeOwn
set_option linter.unusedVariables false
set_option linter.unusedSimpArgs false
set_option linter.unusedSectionVars false
/-
  Slices whose elements are flat rows of ints, as a function reads them; a new slice of ints.
-/
namespace Go.Proofs.YtpgcghnlepnoiaaGreat
open Go.RowKit

/-- a slice (nil, or not) that reads as the rows rs, of 'size' ints each; it lies below block B -/
def Chunks (w : World) (B size : Nat) (A : Option Addr) (rs : List (List Int)) : Prop :=
  (∀ r ∈ rs, r.length = size) ∧ (0 < rs.length → ∃ b o, A = some ⟨b, o, none⟩ ∧ b < B ∧ ∀ k r, rs[k]? = some r → row? w b (o + k * size) size = some (ints r))
theorem row_below {w w' : World} {B g : Nat} (hb : Below B w w') (hg : g < B) (o n : Nat) : row? w' g o n = row? w g o n := by
  unfold row?; rw [hb.block g hg]
theorem Chunks.below {w w' : World} {B size : Nat} {A : Option Addr} {rs : List (List Int)} (h : Chunks w B size A rs) (hb : Below B w w') : Chunks w' B size A rs :=
  ⟨h.1, fun h0 => by
    obtain ⟨b, o, e, hlt, hc⟩ := h.2 h0
    exact ⟨b, o, e, hlt, fun k r hr => (row_below hb hlt _ _).trans (hc k r hr)⟩⟩
theorem Chunks.more {w : World} {B B' size : Nat} {A : Option Addr} {rs : List (List Int)} (h : Chunks w B size A rs) (hB : B ≤ B') : Chunks w B' size A rs :=
  ⟨h.1, fun h0 => by
    obtain ⟨b, o, e, hlt, hc⟩ := h.2 h0
    exact ⟨b, o, e, by omega, hc⟩⟩
theorem Chunks.at_ {w : World} {B size : Nat} {A : Option Addr} {rs : List (List Int)} (h : Chunks w B size A rs) {k : Nat} (hk : k < rs.length) :
    ∃ b o, A = some ⟨b, o, none⟩ ∧ b < B ∧ row? w b (o + k * size) size = some (ints rs[k]) := by
  obtain ⟨b, o, e, hlt, hc⟩ := h.2 (by omega)
  exact ⟨b, o, e, hlt, hc k _ (List.getElem?_eq_getElem hk)⟩

/-- n rows of 'size' ints each, cut from a list of ints -/
def cutRows (size : Nat) (xs : List Int) (n : Nat) : List (List Int) := (List.range n).map fun k => (xs.drop (k * size)).take size
theorem cutRows_len (size : Nat) (xs : List Int) (n : Nat) : (cutRows size xs n).length = n := by simp [cutRows]
theorem cutRows_size {size : Nat} {xs : List Int} {n : Nat} (h : xs.length = n * size) : ∀ r ∈ cutRows size xs n, r.length = size := by
  intro r hr
  obtain ⟨k, hk, rfl⟩ := List.mem_map.1 hr
  have hk' : k + 1 ≤ n := List.mem_range.1 hk
  have := Nat.mul_le_mul_right size hk'
  rw [Nat.add_mul, Nat.one_mul] at this
  rw [List.length_take, List.length_drop]; omega
theorem cutRows_mem {size : Nat} {xs : List Int} {n : Nat} : ∀ r ∈ cutRows size xs n, ∀ x ∈ r, x ∈ xs := by
  intro r hr x hx
  obtain ⟨k, _, rfl⟩ := List.mem_map.1 hr
  exact List.mem_of_mem_drop (List.mem_of_mem_take hx)
theorem row_of_cells {w : World} {b o n : Nat} {r : List Int} (hr : r.length = n) (hn : 0 < n) (h : ∀ j x, r[j]? = some x → w.cell? ⟨b, o + j, none⟩ = some (.int .i64 x)) : row? w b o n = some (ints r) := by
  have h0 := h (n - 1) _ (List.getElem?_eq_getElem (by omega))
  unfold World.cell? at h0
  unfold row?
  split at h0
  · rename_i cs t fr hg
    simp only at hg
    rw [hg]
    simp only at h0 ⊢
    have hsz := (Array.getElem?_eq_some_iff.1 h0).1
    rw [if_pos (by omega)]
    congr 1
    apply Array.ext
    · simp [ints_size]; omega
    · intro i h1 h2
      rw [ints_size] at h2
      have := h i _ (List.getElem?_eq_getElem h2)
      rw [cell_of_row w b (o + i) cs t fr hg] at this
      obtain ⟨h3, h4⟩ := Array.getElem?_eq_some_iff.1 this
      simp [ints, h4]
  · cases h0
theorem Reads.chunks {w : World} {B size : Nat} {A : Option Addr} {n : Nat} {xs : List Int} (h : Reads w B size A n (xs.map (Value.int .i64))) (hs : 0 < size) : Chunks w B size A (cutRows size xs n) := by
  have hl : xs.length = n * size := by have := h.1; simpa using this
  refine ⟨cutRows_size hl, fun h0 => ?_⟩
  rw [cutRows_len] at h0
  obtain ⟨b, o, e, hb, hc⟩ := h.2 h0
  refine ⟨b, o, e, hb, fun k r hr => ?_⟩
  have hk : k < n := by have := (List.getElem?_eq_some_iff.1 hr).1; rwa [cutRows_len] at this
  have hmem := cutRows_size hl r (List.mem_of_getElem? hr)
  refine row_of_cells hmem hs fun j x hx => ?_
  have hr' : (xs.drop (k * size)).take size = r := by simpa [cutRows, hk] using hr
  rw [← hr', List.getElem?_take] at hx
  split at hx
  · rw [List.getElem?_drop] at hx
    have := hc (k * size + j) (.int .i64 x) (by rw [List.getElem?_map, hx]; rfl)
    rwa [Nat.add_assoc]
  · cases hx

/-- are two lists of rows one? -/
def sameRows (xs ys : List (List Int)) : Bool := decide (xs = ys)

set_option maxRecDepth 100000 in
/-- make([]int, n) -/
theorem run_make_ints (n : Nat) (hn : n ≤ 1000000) (w : World) : (Instr.makeSlice 44 (.int .i64 (n : Int)) (.int .i64 (n : Int))).run Tryz.prog w = .ok (.slice (some ⟨w.heap.size, 0, none⟩) n n) (w.alloc (.cells (ints (List.replicate n 0)) 3)) := by
  obtain ⟨i, hi, hz, hs, hby⟩ : ∃ i, Tryz.prog.info? 3 = some i ∧ i.zero = some (.int .i64 0) ∧ i.size = 1 ∧ i.bytes = 8 := by
    have := int_info
    cases h : Tryz.prog.info? 3 with
    | none => rw [h] at this; cases this
    | some i => rw [h] at this; simp at this; exact ⟨i, rfl, this⟩
  rw [run_make w _ _ i _ Tryz.underlying44 hi hz .i64 .i64 n n (by omega) (by omega) (by rw [hby]; omega) (by omega)]
  congr 2
  have := toList_madeCells_one (.int .i64 0) ((n : Int).toNat * i.size)
  congr 1
  apply Array.ext'
  rw [ints_toList, show (Value.int .i64 0).cells = #[.int .i64 0] from rfl, this, hs]
  simp
/-- a block of ints of the call's own -/
theorem OwnI.of_blk {w : World} {B g : Nat} {zs : List Int} (h : Blk w g 3 (ints zs)) (hB : B ≤ g) (hn : zs.length ≤ maxLen) : OwnI w B (.slice (some ⟨g, 0, none⟩) zs.length zs.length) zs :=
  ⟨by simp, Or.inr ⟨g, zs.length, ints zs, rfl, hB, h, Nat.le_refl _, hn, by simp [ints_size], by rw [ints_toList]; exact List.take_of_length_le (by simp)⟩⟩

end Go.Proofs.YtpgcghnlepnoiaaGreat
