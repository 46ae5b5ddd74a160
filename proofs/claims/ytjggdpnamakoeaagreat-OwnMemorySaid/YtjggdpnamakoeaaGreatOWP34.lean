/-
  Several texts in one (merged by a program of mine): Lift4, Lift5.
-/
import Derived.Test.YtjggdpnamakoeaaGreatOWP33
set_option linter.unusedVariables false
set_option linter.unusedSimpArgs false
set_option linter.unusedSectionVars false
/-
  Slices of ops as arguments.
-/
namespace Go.Proofs.YtjggdpnamakoeaaGreat
open Go.RowKit Go.ChangeShapes Go.WideShapes Go.ChangeAt Go.Deep

theorem op_bytes : Tryz.prog.bytesOf 43 = 128 := by kernel_rfl
set_option maxRecDepth 100000 in
theorem open_ops_arg {H : Type} {enc : TypeId × Value → H} {W : World} {r : Reach} {b0 : Nat} {v : Value} {d : DataW H} {p : List MemPlace} {ts : List TypeId} {ds : List (DataW H)} (j : Nat)
    (hsz : (DataW.weightsEach Tryz.prog ts ds).all (· ≤ reachBytes) = true) (ht : ts[j]? = some 22) (hd : ds[j]? = some d)
    (hv : Value.okWide Tryz.prog W r b0 22 v) (h : DataW.Trod enc Tryz.prog W 0 (fun _ => true) true 22 v d p) (hlt : ∀ x ∈ p, x.block < W.heap.size) :
    ∃ A c os, v = .slice A (List.length os) c ∧ os.length ≤ 1099511627744 ∧ OpsIn W W.heap.size A os ∧ (∀ o ∈ os, o.b.v.length = 8 ∧ ∀ x ∈ OpM.list o, Fits x) ∧ os.length ≤ c ∧ c ≤ maxLen := by
  obtain ⟨A, n, c, rfl, hc, hn, hel, xs, hr, hf⟩ := open_flats 5 Tryz.underlying22 (by kernel_rfl) (by rw [op_cells]; omega) hv h hlt
  rw [op_cells] at hr
  have hl : xs.length = n * 16 := by have := hr.1; simpa using this
  have h7 := cutRows_size hl
  have hn1 : n ≤ 1099511627744 := by
    obtain ⟨elems, sp, h | h⟩ := hel
    · have := sized_slice hsz ht (h.1 ▸ hd) Tryz.underlying22
      rw [op_bytes, h.2] at this
      have hrb : reachBytes ≤ 140737488351232 := by decide
      generalize sp.length = q at *
      omega
    · omega
  have e : ((cutRows 16 xs n).map toOp).map OpM.list = cutRows 16 xs n := by
    rw [List.map_map]
    conv => rhs; rw [← List.map_id (cutRows 16 xs n)]
    exact List.map_congr_left fun r hr => (toOp_list (h7 r hr)).1
  refine ⟨A, c, (cutRows 16 xs n).map toOp, by rw [List.length_map, cutRows_len], by rw [List.length_map, cutRows_len]; omega, ?_, ?_, by rw [List.length_map, cutRows_len]; exact hn, hc⟩
  · unfold OpsIn; rw [e]; exact Reads.chunks hr (by omega)
  · intro s hs
    obtain ⟨r, hr, rfl⟩ := List.mem_map.1 hs
    refine ⟨(toOp_list (h7 r hr)).2, fun x hx => ?_⟩
    rw [(toOp_list (h7 r hr)).1] at hx
    exact hf x (cutRows_mem r hr x hx)

set_option maxRecDepth 100000 in
theorem open_handle {H : Type} {enc : TypeId × Value → H} {W : World} {r : Reach} {b0 : Nat} {v : Value} {d : DataW H} {p : List MemPlace}
    (hv : Value.okWide Tryz.prog W r b0 41 v) (h : DataW.Trod enc Tryz.prog W 0 (fun _ => true) true 41 v d p) :
    ∃ a : Hd, v = hdV a ∧ Fits a.1 ∧ Fits a.2 := by
  obtain ⟨xs, rfl, hl, hf⟩ := open_flat 4 Tryz.underlying41 (by kernel_rfl) hv h
  rw [handle_cells] at hl
  match xs, hl with
  | [a, b], _ => exact ⟨(a, b), rfl, hf a (by simp), hf b (by simp)⟩

end Go.Proofs.YtjggdpnamakoeaaGreat

/-
  Slices of rows and of changes as arguments (printed by wip/gen_lift5.py).
-/
namespace Go.Proofs.YtjggdpnamakoeaaGreat
open Go.RowKit Go.ChangeShapes Go.WideShapes Go.ChangeAt Go.Deep

theorem open_nil {P : Program} {H : Type} {enc : TypeId × Value → H} {w : World} {base : Nat} {spare : Nat → Bool} {held : Bool} {t e : TypeId} {v : Value} {d : DataW H} {p : List MemPlace} (ht : P.underlying t = some (.slice e))
    (h : DataW.Trod enc P w base spare held t v d p) : ∀ n c, v = .slice none n c → n = 0 ∧ c = 0 := by
  rintro n c rfl
  obtain ⟨fuel, hf⟩ := h
  rcases open_slice ht hf with ⟨hcs, hx⟩ | ⟨a, len, cap, m, k, D, Pl, hcs, hb, hl, hm, hmm, hx, hi⟩
  · simp only [Value.cells, List.cons.injEq, Value.slice.injEq, and_true] at hcs
    exact ⟨hcs.2.1, hcs.2.2⟩
  · simp [Value.cells] at hcs

theorem row_bytes : Tryz.prog.bytesOf 49 = 88 := by kernel_rfl
set_option maxRecDepth 100000 in
theorem open_rows_arg {H : Type} {enc : TypeId × Value → H} {W : World} {r : Reach} {b0 : Nat} {v : Value} {d : DataW H} {p : List MemPlace} {ts : List TypeId} {ds : List (DataW H)} (j : Nat)
    (hsz : (DataW.weightsEach Tryz.prog ts ds).all (· ≤ reachBytes) = true) (ht : ts[j]? = some 30) (hd : ds[j]? = some d)
    (hv : Value.okWide Tryz.prog W r b0 30 v) (h : DataW.Trod enc Tryz.prog W 0 (fun _ => true) true 30 v d p) (hlt : ∀ x ∈ p, x.block < W.heap.size) :
    ∃ A c os, v = .slice A (List.length os) c ∧ os.length ≤ 1599289640354 ∧ RowsIn W W.heap.size A os ∧ (∀ o ∈ os, RowOk o ∧ ∀ x ∈ rL o, Fits x) ∧ os.length ≤ c ∧ c ≤ maxLen ∧ ((A = none ∧ os.length = 0 ∧ c = 0) ∨ ∃ ad, A = some ad) := by
  have hnil := open_nil Tryz.underlying30 h
  obtain ⟨A, n, c, rfl, hc, hn, hel, xs, hr, hf⟩ := open_flats 5 Tryz.underlying30 (by kernel_rfl) (by rw [row_cells]; omega) hv h hlt
  rw [row_cells] at hr
  have hl : xs.length = n * 11 := by have := hr.1; simpa using this
  have h7 := cutRows_size hl
  have hn1 : n ≤ 1599289640354 := by
    obtain ⟨elems, sp, h | h⟩ := hel
    · have := sized_slice hsz ht (h.1 ▸ hd) Tryz.underlying30
      rw [row_bytes, h.2] at this
      have hrb : reachBytes ≤ 140737488351232 := by decide
      generalize sp.length = q at *
      omega
    · omega
  have e : ((cutRows 11 xs n).map toRow).map rL = cutRows 11 xs n := by
    rw [List.map_map]
    conv => rhs; rw [← List.map_id (cutRows 11 xs n)]
    exact List.map_congr_left fun r hr => (toRow_list (h7 r hr)).1
  refine ⟨A, c, (cutRows 11 xs n).map toRow, by rw [List.length_map, cutRows_len], by rw [List.length_map, cutRows_len]; omega, ?_, ?_, by rw [List.length_map, cutRows_len]; exact hn, hc, ?_⟩
  · unfold RowsIn; rw [e]; exact Reads.chunks hr (by omega)
  · intro s hs
    obtain ⟨r, hr, rfl⟩ := List.mem_map.1 hs
    refine ⟨(toRow_list (h7 r hr)).2, fun x hx => ?_⟩
    rw [(toRow_list (h7 r hr)).1] at hx
    exact hf x (cutRows_mem r hr x hx)
  · cases A with
    | some ad => exact Or.inr ⟨ad, rfl⟩
    | none =>
      obtain ⟨h1, h2⟩ := hnil n c rfl
      exact Or.inl ⟨rfl, by rw [List.length_map, cutRows_len]; exact h1, h2⟩

theorem change_bytes : Tryz.prog.bytesOf 64 = 160 := by kernel_rfl
set_option maxRecDepth 100000 in
theorem open_changes_arg {H : Type} {enc : TypeId × Value → H} {W : World} {r : Reach} {b0 : Nat} {v : Value} {d : DataW H} {p : List MemPlace} {ts : List TypeId} {ds : List (DataW H)} (j : Nat)
    (hsz : (DataW.weightsEach Tryz.prog ts ds).all (· ≤ reachBytes) = true) (ht : ts[j]? = some 61) (hd : ds[j]? = some d)
    (hv : Value.okWide Tryz.prog W r b0 61 v) (h : DataW.Trod enc Tryz.prog W 0 (fun _ => true) true 61 v d p) (hlt : ∀ x ∈ p, x.block < W.heap.size) :
    ∃ A c os, v = .slice A (List.length os) c ∧ os.length ≤ 879609302195 ∧ ChgsIn W W.heap.size A os ∧ (∀ o ∈ os, ChgOk o ∧ ∀ x ∈ cL o, Fits x) ∧ os.length ≤ c ∧ c ≤ maxLen ∧ ((A = none ∧ os.length = 0 ∧ c = 0) ∨ ∃ ad, A = some ad) := by
  have hnil := open_nil Tryz.underlying61 h
  obtain ⟨A, n, c, rfl, hc, hn, hel, xs, hr, hf⟩ := open_flats 5 Tryz.underlying61 (by kernel_rfl) (by rw [change_cells]; omega) hv h hlt
  rw [change_cells] at hr
  have hl : xs.length = n * 20 := by have := hr.1; simpa using this
  have h7 := cutRows_size hl
  have hn1 : n ≤ 879609302195 := by
    obtain ⟨elems, sp, h | h⟩ := hel
    · have := sized_slice hsz ht (h.1 ▸ hd) Tryz.underlying61
      rw [change_bytes, h.2] at this
      have hrb : reachBytes ≤ 140737488351232 := by decide
      generalize sp.length = q at *
      omega
    · omega
  have e : ((cutRows 20 xs n).map toChg).map cL = cutRows 20 xs n := by
    rw [List.map_map]
    conv => rhs; rw [← List.map_id (cutRows 20 xs n)]
    exact List.map_congr_left fun r hr => (toChg_list (h7 r hr)).1
  refine ⟨A, c, (cutRows 20 xs n).map toChg, by rw [List.length_map, cutRows_len], by rw [List.length_map, cutRows_len]; omega, ?_, ?_, by rw [List.length_map, cutRows_len]; exact hn, hc, ?_⟩
  · unfold ChgsIn; rw [e]; exact Reads.chunks hr (by omega)
  · intro s hs
    obtain ⟨r, hr, rfl⟩ := List.mem_map.1 hs
    refine ⟨(toChg_list (h7 r hr)).2, fun x hx => ?_⟩
    rw [(toChg_list (h7 r hr)).1] at hx
    exact hf x (cutRows_mem r hr x hx)
  · cases A with
    | some ad => exact Or.inr ⟨ad, rfl⟩
    | none =>
      obtain ⟨h1, h2⟩ := hnil n c rfl
      exact Or.inl ⟨rfl, by rw [List.length_map, cutRows_len]; exact h1, h2⟩

end Go.Proofs.YtjggdpnamakoeaaGreat
