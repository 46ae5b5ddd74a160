/-
  Several texts in one (merged by a program of mine): Lift4.
-/
import Derived.Test.YtpgcghnlepnoiaaGreatMP33
set_option linter.unusedVariables false
set_option linter.unusedSimpArgs false
set_option linter.unusedSectionVars false
/-
  Slices of ops as arguments.
-/
namespace Go.Proofs.YtpgcghnlepnoiaaGreat
open Go.RowKit Go.ChangeShapes Go.WideShapes Go.ChangeAt Go.Deep

theorem op_bytes : Tryz.prog.bytesOf 35 = 128 := by kernel_rfl
set_option maxRecDepth 100000 in
theorem open_ops_arg {H : Type} {enc : TypeId × Value → H} {W : World} {r : Reach} {b0 : Nat} {v : Value} {d : DataW H} {p : List MemPlace} {ts : List TypeId} {ds : List (DataW H)} (j : Nat)
    (hsz : (DataW.weightsEach Tryz.prog ts ds).all (· ≤ reachBytes) = true) (ht : ts[j]? = some 22) (hd : ds[j]? = some d)
    (hv : Value.okWide Tryz.prog W r b0 22 v) (h : DataW.Trod enc Tryz.prog W 0 (fun _ => true) true 22 v d p) (hlt : ∀ x ∈ p, x.block < W.heap.size) :
    ∃ A c os, v = .slice A (List.length os) c ∧ os.length ≤ 1099511627744 ∧ OpsIn W W.heap.size A os ∧ (∀ o ∈ os, o.b.v.length = 8 ∧ ∀ x ∈ OpM.list o, Fits x) ∧ os.length ≤ c ∧ c ≤ maxLen := by
  obtain ⟨A, n, c, rfl, hc, hn, hel, xs, hr, hf⟩ := open_flats 5 Tryz.underlying22 (by kernel_rfl) (by rw [op_cells]; omega) hv h hlt
  rw [op_cells] at hr
  have hl : xs.length = n * 16 := by have := hr.1; simpa using this
  have h7 := cutRows_size hl
  have hn1 : n ≤ 1099511627744 := by
    obtain ⟨elems, sp, h | h⟩ := hel
    · have := sized_slice hsz ht (h.1 ▸ hd) Tryz.underlying22
      rw [op_bytes, h.2] at this
      have hrb : reachBytes ≤ 140737488351232 := by decide
      generalize sp.length = q at *
      omega
    · omega
  have e : ((cutRows 16 xs n).map toOp).map OpM.list = cutRows 16 xs n := by
    rw [List.map_map]
    conv => rhs; rw [← List.map_id (cutRows 16 xs n)]
    exact List.map_congr_left fun r hr => (toOp_list (h7 r hr)).1
  refine ⟨A, c, (cutRows 16 xs n).map toOp, by rw [List.length_map, cutRows_len], by rw [List.length_map, cutRows_len]; omega, ?_, ?_, by rw [List.length_map, cutRows_len]; exact hn, hc⟩
  · unfold OpsIn; rw [e]; exact Reads.chunks hr (by omega)
  · intro s hs
    obtain ⟨r, hr, rfl⟩ := List.mem_map.1 hs
    refine ⟨(toOp_list (h7 r hr)).2, fun x hx => ?_⟩
    rw [(toOp_list (h7 r hr)).1] at hx
    exact hf x (cutRows_mem r hr x hx)

set_option maxRecDepth 100000 in
theorem open_handle {H : Type} {enc : TypeId × Value → H} {W : World} {r : Reach} {b0 : Nat} {v : Value} {d : DataW H} {p : List MemPlace}
    (hv : Value.okWide Tryz.prog W r b0 30 v) (h : DataW.Trod enc Tryz.prog W 0 (fun _ => true) true 30 v d p) :
    ∃ a : Hd, v = hdV a ∧ Fits a.1 ∧ Fits a.2 := by
  obtain ⟨xs, rfl, hl, hf⟩ := open_flat 4 Tryz.underlying30 (by kernel_rfl) hv h
  rw [handle_cells] at hl
  match xs, hl with
  | [a, b], _ => exact ⟨(a, b), rfl, hf a (by simp), hf b (by simp)⟩

end Go.Proofs.YtpgcghnlepnoiaaGreat
