/-
  Slices of systems as arguments.
-/
import Derived.Test.YtmocljblfccglaaLift2
import Derived.Test.YtmocljblfccglaaSysIn
namespace Go.Proofs.Ytmocljblfccglaa
open Go.RowKit Go.ChangeShapes Go.WideShapes Go.ChangeAt Go.Deep

set_option maxRecDepth 100000 in
theorem open_syss_arg {H : Type} {enc : TypeId × Value → H} {W : World} {r : Reach} {b0 : Nat} {v : Value} {d : DataW H} {p : List MemPlace}
    (hv : Value.okWide Try.prog W r b0 69 v) (h : DataW.Trod enc Try.prog W 0 (fun _ => true) true 69 v d p) (hlt : ∀ x ∈ p, x.block < W.heap.size) :
    ∃ A c ss, v = .slice A (List.length ss) c ∧ ss.length ≤ maxLen ∧ SysIn W W.heap.size A ss ∧ ∀ s ∈ ss, s.Fit := by
  obtain ⟨A, n, c, rfl, hc, hn, _, xs, hr, hf⟩ := open_flats 4 Try.underlying69 (by kernel_rfl) (by rw [sys_cells]; omega) hv h hlt
  rw [sys_cells] at hr
  have hl : xs.length = n * 7 := by have := hr.1; simpa using this
  have h7 := cutRows_size hl
  have e : ((cutRows 7 xs n).map toSys).map Sys.list = cutRows 7 xs n := by
    rw [List.map_map]
    conv => rhs; rw [← List.map_id (cutRows 7 xs n)]
    exact List.map_congr_left fun r hr => toSys_list (h7 r hr)
  refine ⟨A, c, (cutRows 7 xs n).map toSys, by rw [List.length_map, cutRows_len], by rw [List.length_map, cutRows_len]; omega, ?_, ?_⟩
  · unfold SysIn; rw [e]; exact Reads.chunks hr (by omega)
  · intro s hs
    obtain ⟨r, hr, rfl⟩ := List.mem_map.1 hs
    intro x hx
    rw [toSys_list (h7 r hr)] at hx
    exact hf x (cutRows_mem r hr x hx)

end Go.Proofs.Ytmocljblfccglaa
