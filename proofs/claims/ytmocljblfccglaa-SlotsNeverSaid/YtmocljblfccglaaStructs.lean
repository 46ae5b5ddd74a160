/-
  The program's structs whose cells are ints: load, store and comparison, as rules of the walk (printed by wip/gen_structs.py).
-/
import Derived.Test.YtmocljblfccglaaFlatEq
namespace Go.Proofs.Ytmocljblfccglaa
open Go.RowKit

theorem vals_info : (Try.prog.info? 54).map (·.size) = some 8 := by kernel_rfl
theorem vals_cells : Try.prog.cellsOf 54 = 8 := by kernel_rfl
@[go_sem ↓] theorem loadAt_vals (v : Value) : Instr.loadAt 54 v = rowLoad 54 v := rfl
@[go_sem ↓] theorem storeAt_vals (p v : Value) : Instr.storeAt 54 p v = rowStore 54 p v := rfl
@[go_sem] theorem run_load_vals (w : World) (g o : Nat) : (rowLoad 54 (.pointer (some ⟨g, o, none⟩))).run Try.prog w = match row? w g o 8 with | some cs => .ok (.agg cs) w | none => (slowLoad 54 ⟨g, o, none⟩).run Try.prog w :=
  run_rowLoad w _ g o 8 _ Try.underlying54 rfl vals_info
@[go_sem] theorem run_store_vals (w : World) (g o : Nat) (xs : List Int) : (rowStore 54 (.pointer (some ⟨g, o, none⟩)) (.agg (ints xs))).run Try.prog w =
    if fits w g o 8 = true ∧ xs.length = 8 then .ok () (putRow w g o xs) else (slowStore 54 g o (.agg (ints xs))).run Try.prog w := run_rowStore w _ g o 8 xs vals_info
@[go_sem] theorem run_store_vals_lit (w : World) (g o : Nat) (a0 a1 a2 a3 a4 a5 a6 a7 : Int) : (rowStore 54 (.pointer (some ⟨g, o, none⟩)) (.agg #[.int .i64 a0, .int .i64 a1, .int .i64 a2, .int .i64 a3, .int .i64 a4, .int .i64 a5, .int .i64 a6, .int .i64 a7])).run Try.prog w =
    if fits w g o 8 = true then .ok () (putRow w g o [a0, a1, a2, a3, a4, a5, a6, a7]) else (slowStore 54 g o (.agg (ints [a0, a1, a2, a3, a4, a5, a6, a7]))).run Try.prog w := by
  have h := run_store_vals w g o [a0, a1, a2, a3, a4, a5, a6, a7]
  simp only [List.length_cons, List.length_nil, Nat.reduceAdd, and_true] at h
  exact h
theorem eql_vals (xs ys : List Int) (hx : xs.length = 8) (hy : ys.length = 8) (w : World) : (binOp .eql 54 (.agg (ints xs)) (.agg (ints ys))).run Try.prog w = .ok (.bool (decide (xs = ys))) w :=
  run_eql_flat 5 _ xs ys w (by decide) (by kernel_rfl) (by kernel_rfl) (by rw [vals_cells]; exact hx) (by rw [vals_cells]; exact hy)
theorem neq_vals (xs ys : List Int) (hx : xs.length = 8) (hy : ys.length = 8) (w : World) : (binOp .neq 54 (.agg (ints xs)) (.agg (ints ys))).run Try.prog w = .ok (.bool (!decide (xs = ys))) w :=
  run_neq_flat 5 _ xs ys w (by decide) (by kernel_rfl) (by kernel_rfl) (by rw [vals_cells]; exact hx) (by rw [vals_cells]; exact hy)

theorem beast_info : (Try.prog.info? 56).map (·.size) = some 9 := by kernel_rfl
theorem beast_cells : Try.prog.cellsOf 56 = 9 := by kernel_rfl
@[go_sem ↓] theorem loadAt_beast (v : Value) : Instr.loadAt 56 v = rowLoad 56 v := rfl
@[go_sem ↓] theorem storeAt_beast (p v : Value) : Instr.storeAt 56 p v = rowStore 56 p v := rfl
@[go_sem] theorem run_load_beast (w : World) (g o : Nat) : (rowLoad 56 (.pointer (some ⟨g, o, none⟩))).run Try.prog w = match row? w g o 9 with | some cs => .ok (.agg cs) w | none => (slowLoad 56 ⟨g, o, none⟩).run Try.prog w :=
  run_rowLoad w _ g o 9 _ Try.underlying56 rfl beast_info
@[go_sem] theorem run_store_beast (w : World) (g o : Nat) (xs : List Int) : (rowStore 56 (.pointer (some ⟨g, o, none⟩)) (.agg (ints xs))).run Try.prog w =
    if fits w g o 9 = true ∧ xs.length = 9 then .ok () (putRow w g o xs) else (slowStore 56 g o (.agg (ints xs))).run Try.prog w := run_rowStore w _ g o 9 xs beast_info
@[go_sem] theorem run_store_beast_lit (w : World) (g o : Nat) (a0 a1 a2 a3 a4 a5 a6 a7 a8 : Int) : (rowStore 56 (.pointer (some ⟨g, o, none⟩)) (.agg #[.int .i64 a0, .int .i64 a1, .int .i64 a2, .int .i64 a3, .int .i64 a4, .int .i64 a5, .int .i64 a6, .int .i64 a7, .int .i64 a8])).run Try.prog w =
    if fits w g o 9 = true then .ok () (putRow w g o [a0, a1, a2, a3, a4, a5, a6, a7, a8]) else (slowStore 56 g o (.agg (ints [a0, a1, a2, a3, a4, a5, a6, a7, a8]))).run Try.prog w := by
  have h := run_store_beast w g o [a0, a1, a2, a3, a4, a5, a6, a7, a8]
  simp only [List.length_cons, List.length_nil, Nat.reduceAdd, and_true] at h
  exact h
theorem eql_beast (xs ys : List Int) (hx : xs.length = 9) (hy : ys.length = 9) (w : World) : (binOp .eql 56 (.agg (ints xs)) (.agg (ints ys))).run Try.prog w = .ok (.bool (decide (xs = ys))) w :=
  run_eql_flat 5 _ xs ys w (by decide) (by kernel_rfl) (by kernel_rfl) (by rw [beast_cells]; exact hx) (by rw [beast_cells]; exact hy)
theorem neq_beast (xs ys : List Int) (hx : xs.length = 9) (hy : ys.length = 9) (w : World) : (binOp .neq 56 (.agg (ints xs)) (.agg (ints ys))).run Try.prog w = .ok (.bool (!decide (xs = ys))) w :=
  run_neq_flat 5 _ xs ys w (by decide) (by kernel_rfl) (by kernel_rfl) (by rw [beast_cells]; exact hx) (by rw [beast_cells]; exact hy)

theorem query_info : (Try.prog.info? 33).map (·.size) = some 3 := by kernel_rfl
theorem query_cells : Try.prog.cellsOf 33 = 3 := by kernel_rfl
@[go_sem ↓] theorem loadAt_query (v : Value) : Instr.loadAt 33 v = rowLoad 33 v := rfl
@[go_sem ↓] theorem storeAt_query (p v : Value) : Instr.storeAt 33 p v = rowStore 33 p v := rfl
@[go_sem] theorem run_load_query (w : World) (g o : Nat) : (rowLoad 33 (.pointer (some ⟨g, o, none⟩))).run Try.prog w = match row? w g o 3 with | some cs => .ok (.agg cs) w | none => (slowLoad 33 ⟨g, o, none⟩).run Try.prog w :=
  run_rowLoad w _ g o 3 _ Try.underlying33 rfl query_info
@[go_sem] theorem run_store_query (w : World) (g o : Nat) (xs : List Int) : (rowStore 33 (.pointer (some ⟨g, o, none⟩)) (.agg (ints xs))).run Try.prog w =
    if fits w g o 3 = true ∧ xs.length = 3 then .ok () (putRow w g o xs) else (slowStore 33 g o (.agg (ints xs))).run Try.prog w := run_rowStore w _ g o 3 xs query_info
@[go_sem] theorem run_store_query_lit (w : World) (g o : Nat) (a0 a1 a2 : Int) : (rowStore 33 (.pointer (some ⟨g, o, none⟩)) (.agg #[.int .i64 a0, .int .i64 a1, .int .i64 a2])).run Try.prog w =
    if fits w g o 3 = true then .ok () (putRow w g o [a0, a1, a2]) else (slowStore 33 g o (.agg (ints [a0, a1, a2]))).run Try.prog w := by
  have h := run_store_query w g o [a0, a1, a2]
  simp only [List.length_cons, List.length_nil, Nat.reduceAdd, and_true] at h
  exact h
theorem eql_query (xs ys : List Int) (hx : xs.length = 3) (hy : ys.length = 3) (w : World) : (binOp .eql 33 (.agg (ints xs)) (.agg (ints ys))).run Try.prog w = .ok (.bool (decide (xs = ys))) w :=
  run_eql_flat 5 _ xs ys w (by decide) (by kernel_rfl) (by kernel_rfl) (by rw [query_cells]; exact hx) (by rw [query_cells]; exact hy)
theorem neq_query (xs ys : List Int) (hx : xs.length = 3) (hy : ys.length = 3) (w : World) : (binOp .neq 33 (.agg (ints xs)) (.agg (ints ys))).run Try.prog w = .ok (.bool (!decide (xs = ys))) w :=
  run_neq_flat 5 _ xs ys w (by decide) (by kernel_rfl) (by kernel_rfl) (by rw [query_cells]; exact hx) (by rw [query_cells]; exact hy)

theorem sys_info : (Try.prog.info? 58).map (·.size) = some 7 := by kernel_rfl
theorem sys_cells : Try.prog.cellsOf 58 = 7 := by kernel_rfl
@[go_sem ↓] theorem loadAt_sys (v : Value) : Instr.loadAt 58 v = rowLoad 58 v := rfl
@[go_sem ↓] theorem storeAt_sys (p v : Value) : Instr.storeAt 58 p v = rowStore 58 p v := rfl
@[go_sem] theorem run_load_sys (w : World) (g o : Nat) : (rowLoad 58 (.pointer (some ⟨g, o, none⟩))).run Try.prog w = match row? w g o 7 with | some cs => .ok (.agg cs) w | none => (slowLoad 58 ⟨g, o, none⟩).run Try.prog w :=
  run_rowLoad w _ g o 7 _ Try.underlying58 rfl sys_info
@[go_sem] theorem run_store_sys (w : World) (g o : Nat) (xs : List Int) : (rowStore 58 (.pointer (some ⟨g, o, none⟩)) (.agg (ints xs))).run Try.prog w =
    if fits w g o 7 = true ∧ xs.length = 7 then .ok () (putRow w g o xs) else (slowStore 58 g o (.agg (ints xs))).run Try.prog w := run_rowStore w _ g o 7 xs sys_info
@[go_sem] theorem run_store_sys_lit (w : World) (g o : Nat) (a0 a1 a2 a3 a4 a5 a6 : Int) : (rowStore 58 (.pointer (some ⟨g, o, none⟩)) (.agg #[.int .i64 a0, .int .i64 a1, .int .i64 a2, .int .i64 a3, .int .i64 a4, .int .i64 a5, .int .i64 a6])).run Try.prog w =
    if fits w g o 7 = true then .ok () (putRow w g o [a0, a1, a2, a3, a4, a5, a6]) else (slowStore 58 g o (.agg (ints [a0, a1, a2, a3, a4, a5, a6]))).run Try.prog w := by
  have h := run_store_sys w g o [a0, a1, a2, a3, a4, a5, a6]
  simp only [List.length_cons, List.length_nil, Nat.reduceAdd, and_true] at h
  exact h
theorem eql_sys (xs ys : List Int) (hx : xs.length = 7) (hy : ys.length = 7) (w : World) : (binOp .eql 58 (.agg (ints xs)) (.agg (ints ys))).run Try.prog w = .ok (.bool (decide (xs = ys))) w :=
  run_eql_flat 5 _ xs ys w (by decide) (by kernel_rfl) (by kernel_rfl) (by rw [sys_cells]; exact hx) (by rw [sys_cells]; exact hy)
theorem neq_sys (xs ys : List Int) (hx : xs.length = 7) (hy : ys.length = 7) (w : World) : (binOp .neq 58 (.agg (ints xs)) (.agg (ints ys))).run Try.prog w = .ok (.bool (!decide (xs = ys))) w :=
  run_neq_flat 5 _ xs ys w (by decide) (by kernel_rfl) (by kernel_rfl) (by rw [sys_cells]; exact hx) (by rw [sys_cells]; exact hy)

theorem handle_info : (Try.prog.info? 42).map (·.size) = some 2 := by kernel_rfl
theorem handle_cells : Try.prog.cellsOf 42 = 2 := by kernel_rfl
@[go_sem ↓] theorem loadAt_handle (v : Value) : Instr.loadAt 42 v = rowLoad 42 v := rfl
@[go_sem ↓] theorem storeAt_handle (p v : Value) : Instr.storeAt 42 p v = rowStore 42 p v := rfl
@[go_sem] theorem run_load_handle (w : World) (g o : Nat) : (rowLoad 42 (.pointer (some ⟨g, o, none⟩))).run Try.prog w = match row? w g o 2 with | some cs => .ok (.agg cs) w | none => (slowLoad 42 ⟨g, o, none⟩).run Try.prog w :=
  run_rowLoad w _ g o 2 _ Try.underlying42 rfl handle_info
@[go_sem] theorem run_store_handle (w : World) (g o : Nat) (xs : List Int) : (rowStore 42 (.pointer (some ⟨g, o, none⟩)) (.agg (ints xs))).run Try.prog w =
    if fits w g o 2 = true ∧ xs.length = 2 then .ok () (putRow w g o xs) else (slowStore 42 g o (.agg (ints xs))).run Try.prog w := run_rowStore w _ g o 2 xs handle_info
@[go_sem] theorem run_store_handle_lit (w : World) (g o : Nat) (a0 a1 : Int) : (rowStore 42 (.pointer (some ⟨g, o, none⟩)) (.agg #[.int .i64 a0, .int .i64 a1])).run Try.prog w =
    if fits w g o 2 = true then .ok () (putRow w g o [a0, a1]) else (slowStore 42 g o (.agg (ints [a0, a1]))).run Try.prog w := by
  have h := run_store_handle w g o [a0, a1]
  simp only [List.length_cons, List.length_nil, Nat.reduceAdd, and_true] at h
  exact h
theorem eql_handle (xs ys : List Int) (hx : xs.length = 2) (hy : ys.length = 2) (w : World) : (binOp .eql 42 (.agg (ints xs)) (.agg (ints ys))).run Try.prog w = .ok (.bool (decide (xs = ys))) w :=
  run_eql_flat 5 _ xs ys w (by decide) (by kernel_rfl) (by kernel_rfl) (by rw [handle_cells]; exact hx) (by rw [handle_cells]; exact hy)
theorem neq_handle (xs ys : List Int) (hx : xs.length = 2) (hy : ys.length = 2) (w : World) : (binOp .neq 42 (.agg (ints xs)) (.agg (ints ys))).run Try.prog w = .ok (.bool (!decide (xs = ys))) w :=
  run_neq_flat 5 _ xs ys w (by decide) (by kernel_rfl) (by kernel_rfl) (by rw [handle_cells]; exact hx) (by rw [handle_cells]; exact hy)






theorem index_vals (xs : List Int) (k : Nat) (hk : k < 8) (hx : xs.length = 8) (w : World) : (Instr.index 54 (.agg (ints xs)) (.int .i64 (k : Int))).run Try.prog w = .ok (.int .i64 (xs.getD k 0)) w := by
  have h : (ints xs)[k]? = some (.int .i64 (xs.getD k 0)) := by rw [ints_at (by omega)]; simp [List.getD, List.getElem?_eq_getElem (show k < xs.length by omega)]
  have hs : (sizeOf 3).run Try.prog w = .ok 1 w := by kernel_rfl
  have hp : (part 3 (ints xs) k).run Try.prog w = .ok (.int .i64 (xs.getD k 0)) w := by
    have ha : (isAgg 3).run Try.prog w = .ok false w := by kernel_rfl
    simp [part, Sem.run_bind, ha, h]
  unfold Instr.index
  simp only [asIntOf, Sem.run_bind, Sem.run_pure, Result.andThen_ok, run_underlying Try.underlying54]
  rw [if_pos (by omega)]
  simp only [Sem.run_bind, hs, Result.andThen_ok, Int.toNat_natCast, Nat.mul_one, hp]

end Go.Proofs.Ytmocljblfccglaa
