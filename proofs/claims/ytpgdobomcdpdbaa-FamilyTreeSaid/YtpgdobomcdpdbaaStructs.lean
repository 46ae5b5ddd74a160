/-
  The program's structs whose cells are ints: load, store and comparison, as rules of the walk (printed by wip/gen_structs.py).
-/
import Derived.Test.YtpgdobomcdpdbaaFlatEq
namespace Go.Proofs.Ytpgdobomcdpdbaa
open Go.RowKit

theorem vals_info : (Try.prog.info? 37).map (·.size) = some 8 := by kernel_rfl
theorem vals_cells : Try.prog.cellsOf 37 = 8 := by kernel_rfl
@[go_sem ↓] theorem loadAt_vals (v : Value) : Instr.loadAt 37 v = rowLoad 37 v := rfl
@[go_sem ↓] theorem storeAt_vals (p v : Value) : Instr.storeAt 37 p v = rowStore 37 p v := rfl
@[go_sem] theorem run_load_vals (w : World) (g o : Nat) : (rowLoad 37 (.pointer (some ⟨g, o, none⟩))).run Try.prog w = match row? w g o 8 with | some cs => .ok (.agg cs) w | none => (slowLoad 37 ⟨g, o, none⟩).run Try.prog w :=
  run_rowLoad w _ g o 8 _ Try.underlying37 rfl vals_info
@[go_sem] theorem run_store_vals (w : World) (g o : Nat) (xs : List Int) : (rowStore 37 (.pointer (some ⟨g, o, none⟩)) (.agg (ints xs))).run Try.prog w =
    if fits w g o 8 = true ∧ xs.length = 8 then .ok () (putRow w g o xs) else (slowStore 37 g o (.agg (ints xs))).run Try.prog w := run_rowStore w _ g o 8 xs vals_info
@[go_sem] theorem run_store_vals_lit (w : World) (g o : Nat) (a0 a1 a2 a3 a4 a5 a6 a7 : Int) : (rowStore 37 (.pointer (some ⟨g, o, none⟩)) (.agg #[.int .i64 a0, .int .i64 a1, .int .i64 a2, .int .i64 a3, .int .i64 a4, .int .i64 a5, .int .i64 a6, .int .i64 a7])).run Try.prog w =
    if fits w g o 8 = true then .ok () (putRow w g o [a0, a1, a2, a3, a4, a5, a6, a7]) else (slowStore 37 g o (.agg (ints [a0, a1, a2, a3, a4, a5, a6, a7]))).run Try.prog w := by
  have h := run_store_vals w g o [a0, a1, a2, a3, a4, a5, a6, a7]
  simp only [List.length_cons, List.length_nil, Nat.reduceAdd, and_true] at h
  exact h
theorem eql_vals (xs ys : List Int) (hx : xs.length = 8) (hy : ys.length = 8) (w : World) : (binOp .eql 37 (.agg (ints xs)) (.agg (ints ys))).run Try.prog w = .ok (.bool (decide (xs = ys))) w :=
  run_eql_flat 5 _ xs ys w (by decide) (by kernel_rfl) (by kernel_rfl) (by rw [vals_cells]; exact hx) (by rw [vals_cells]; exact hy)
theorem neq_vals (xs ys : List Int) (hx : xs.length = 8) (hy : ys.length = 8) (w : World) : (binOp .neq 37 (.agg (ints xs)) (.agg (ints ys))).run Try.prog w = .ok (.bool (!decide (xs = ys))) w :=
  run_neq_flat 5 _ xs ys w (by decide) (by kernel_rfl) (by kernel_rfl) (by rw [vals_cells]; exact hx) (by rw [vals_cells]; exact hy)

theorem beast_info : (Try.prog.info? 39).map (·.size) = some 9 := by kernel_rfl
theorem beast_cells : Try.prog.cellsOf 39 = 9 := by kernel_rfl
@[go_sem ↓] theorem loadAt_beast (v : Value) : Instr.loadAt 39 v = rowLoad 39 v := rfl
@[go_sem ↓] theorem storeAt_beast (p v : Value) : Instr.storeAt 39 p v = rowStore 39 p v := rfl
@[go_sem] theorem run_load_beast (w : World) (g o : Nat) : (rowLoad 39 (.pointer (some ⟨g, o, none⟩))).run Try.prog w = match row? w g o 9 with | some cs => .ok (.agg cs) w | none => (slowLoad 39 ⟨g, o, none⟩).run Try.prog w :=
  run_rowLoad w _ g o 9 _ Try.underlying39 rfl beast_info
@[go_sem] theorem run_store_beast (w : World) (g o : Nat) (xs : List Int) : (rowStore 39 (.pointer (some ⟨g, o, none⟩)) (.agg (ints xs))).run Try.prog w =
    if fits w g o 9 = true ∧ xs.length = 9 then .ok () (putRow w g o xs) else (slowStore 39 g o (.agg (ints xs))).run Try.prog w := run_rowStore w _ g o 9 xs beast_info
@[go_sem] theorem run_store_beast_lit (w : World) (g o : Nat) (a0 a1 a2 a3 a4 a5 a6 a7 a8 : Int) : (rowStore 39 (.pointer (some ⟨g, o, none⟩)) (.agg #[.int .i64 a0, .int .i64 a1, .int .i64 a2, .int .i64 a3, .int .i64 a4, .int .i64 a5, .int .i64 a6, .int .i64 a7, .int .i64 a8])).run Try.prog w =
    if fits w g o 9 = true then .ok () (putRow w g o [a0, a1, a2, a3, a4, a5, a6, a7, a8]) else (slowStore 39 g o (.agg (ints [a0, a1, a2, a3, a4, a5, a6, a7, a8]))).run Try.prog w := by
  have h := run_store_beast w g o [a0, a1, a2, a3, a4, a5, a6, a7, a8]
  simp only [List.length_cons, List.length_nil, Nat.reduceAdd, and_true] at h
  exact h
theorem eql_beast (xs ys : List Int) (hx : xs.length = 9) (hy : ys.length = 9) (w : World) : (binOp .eql 39 (.agg (ints xs)) (.agg (ints ys))).run Try.prog w = .ok (.bool (decide (xs = ys))) w :=
  run_eql_flat 5 _ xs ys w (by decide) (by kernel_rfl) (by kernel_rfl) (by rw [beast_cells]; exact hx) (by rw [beast_cells]; exact hy)
theorem neq_beast (xs ys : List Int) (hx : xs.length = 9) (hy : ys.length = 9) (w : World) : (binOp .neq 39 (.agg (ints xs)) (.agg (ints ys))).run Try.prog w = .ok (.bool (!decide (xs = ys))) w :=
  run_neq_flat 5 _ xs ys w (by decide) (by kernel_rfl) (by kernel_rfl) (by rw [beast_cells]; exact hx) (by rw [beast_cells]; exact hy)



theorem handle_info : (Try.prog.info? 36).map (·.size) = some 2 := by kernel_rfl
theorem handle_cells : Try.prog.cellsOf 36 = 2 := by kernel_rfl
@[go_sem ↓] theorem loadAt_handle (v : Value) : Instr.loadAt 36 v = rowLoad 36 v := rfl
@[go_sem ↓] theorem storeAt_handle (p v : Value) : Instr.storeAt 36 p v = rowStore 36 p v := rfl
@[go_sem] theorem run_load_handle (w : World) (g o : Nat) : (rowLoad 36 (.pointer (some ⟨g, o, none⟩))).run Try.prog w = match row? w g o 2 with | some cs => .ok (.agg cs) w | none => (slowLoad 36 ⟨g, o, none⟩).run Try.prog w :=
  run_rowLoad w _ g o 2 _ Try.underlying36 rfl handle_info
@[go_sem] theorem run_store_handle (w : World) (g o : Nat) (xs : List Int) : (rowStore 36 (.pointer (some ⟨g, o, none⟩)) (.agg (ints xs))).run Try.prog w =
    if fits w g o 2 = true ∧ xs.length = 2 then .ok () (putRow w g o xs) else (slowStore 36 g o (.agg (ints xs))).run Try.prog w := run_rowStore w _ g o 2 xs handle_info
@[go_sem] theorem run_store_handle_lit (w : World) (g o : Nat) (a0 a1 : Int) : (rowStore 36 (.pointer (some ⟨g, o, none⟩)) (.agg #[.int .i64 a0, .int .i64 a1])).run Try.prog w =
    if fits w g o 2 = true then .ok () (putRow w g o [a0, a1]) else (slowStore 36 g o (.agg (ints [a0, a1]))).run Try.prog w := by
  have h := run_store_handle w g o [a0, a1]
  simp only [List.length_cons, List.length_nil, Nat.reduceAdd, and_true] at h
  exact h
theorem eql_handle (xs ys : List Int) (hx : xs.length = 2) (hy : ys.length = 2) (w : World) : (binOp .eql 36 (.agg (ints xs)) (.agg (ints ys))).run Try.prog w = .ok (.bool (decide (xs = ys))) w :=
  run_eql_flat 5 _ xs ys w (by decide) (by kernel_rfl) (by kernel_rfl) (by rw [handle_cells]; exact hx) (by rw [handle_cells]; exact hy)
theorem neq_handle (xs ys : List Int) (hx : xs.length = 2) (hy : ys.length = 2) (w : World) : (binOp .neq 36 (.agg (ints xs)) (.agg (ints ys))).run Try.prog w = .ok (.bool (!decide (xs = ys))) w :=
  run_neq_flat 5 _ xs ys w (by decide) (by kernel_rfl) (by kernel_rfl) (by rw [handle_cells]; exact hx) (by rw [handle_cells]; exact hy)

theorem row_info : (Try.prog.info? 41).map (·.size) = some 11 := by kernel_rfl
theorem row_cells : Try.prog.cellsOf 41 = 11 := by kernel_rfl
@[go_sem ↓] theorem loadAt_row (v : Value) : Instr.loadAt 41 v = rowLoad 41 v := rfl
@[go_sem ↓] theorem storeAt_row (p v : Value) : Instr.storeAt 41 p v = rowStore 41 p v := rfl
@[go_sem] theorem run_load_row (w : World) (g o : Nat) : (rowLoad 41 (.pointer (some ⟨g, o, none⟩))).run Try.prog w = match row? w g o 11 with | some cs => .ok (.agg cs) w | none => (slowLoad 41 ⟨g, o, none⟩).run Try.prog w :=
  run_rowLoad w _ g o 11 _ Try.underlying41 rfl row_info
@[go_sem] theorem run_store_row (w : World) (g o : Nat) (xs : List Int) : (rowStore 41 (.pointer (some ⟨g, o, none⟩)) (.agg (ints xs))).run Try.prog w =
    if fits w g o 11 = true ∧ xs.length = 11 then .ok () (putRow w g o xs) else (slowStore 41 g o (.agg (ints xs))).run Try.prog w := run_rowStore w _ g o 11 xs row_info
@[go_sem] theorem run_store_row_lit (w : World) (g o : Nat) (a0 a1 a2 a3 a4 a5 a6 a7 a8 a9 a10 : Int) : (rowStore 41 (.pointer (some ⟨g, o, none⟩)) (.agg #[.int .i64 a0, .int .i64 a1, .int .i64 a2, .int .i64 a3, .int .i64 a4, .int .i64 a5, .int .i64 a6, .int .i64 a7, .int .i64 a8, .int .i64 a9, .int .i64 a10])).run Try.prog w =
    if fits w g o 11 = true then .ok () (putRow w g o [a0, a1, a2, a3, a4, a5, a6, a7, a8, a9, a10]) else (slowStore 41 g o (.agg (ints [a0, a1, a2, a3, a4, a5, a6, a7, a8, a9, a10]))).run Try.prog w := by
  have h := run_store_row w g o [a0, a1, a2, a3, a4, a5, a6, a7, a8, a9, a10]
  simp only [List.length_cons, List.length_nil, Nat.reduceAdd, and_true] at h
  exact h
theorem eql_row (xs ys : List Int) (hx : xs.length = 11) (hy : ys.length = 11) (w : World) : (binOp .eql 41 (.agg (ints xs)) (.agg (ints ys))).run Try.prog w = .ok (.bool (decide (xs = ys))) w :=
  run_eql_flat 5 _ xs ys w (by decide) (by kernel_rfl) (by kernel_rfl) (by rw [row_cells]; exact hx) (by rw [row_cells]; exact hy)
theorem neq_row (xs ys : List Int) (hx : xs.length = 11) (hy : ys.length = 11) (w : World) : (binOp .neq 41 (.agg (ints xs)) (.agg (ints ys))).run Try.prog w = .ok (.bool (!decide (xs = ys))) w :=
  run_neq_flat 5 _ xs ys w (by decide) (by kernel_rfl) (by kernel_rfl) (by rw [row_cells]; exact hx) (by rw [row_cells]; exact hy)

theorem bond_info : (Try.prog.info? 59).map (·.size) = some 4 := by kernel_rfl
theorem bond_cells : Try.prog.cellsOf 59 = 4 := by kernel_rfl
@[go_sem ↓] theorem loadAt_bond (v : Value) : Instr.loadAt 59 v = rowLoad 59 v := rfl
@[go_sem ↓] theorem storeAt_bond (p v : Value) : Instr.storeAt 59 p v = rowStore 59 p v := rfl
@[go_sem] theorem run_load_bond (w : World) (g o : Nat) : (rowLoad 59 (.pointer (some ⟨g, o, none⟩))).run Try.prog w = match row? w g o 4 with | some cs => .ok (.agg cs) w | none => (slowLoad 59 ⟨g, o, none⟩).run Try.prog w :=
  run_rowLoad w _ g o 4 _ Try.underlying59 rfl bond_info
@[go_sem] theorem run_store_bond (w : World) (g o : Nat) (xs : List Int) : (rowStore 59 (.pointer (some ⟨g, o, none⟩)) (.agg (ints xs))).run Try.prog w =
    if fits w g o 4 = true ∧ xs.length = 4 then .ok () (putRow w g o xs) else (slowStore 59 g o (.agg (ints xs))).run Try.prog w := run_rowStore w _ g o 4 xs bond_info
@[go_sem] theorem run_store_bond_lit (w : World) (g o : Nat) (a0 a1 a2 a3 : Int) : (rowStore 59 (.pointer (some ⟨g, o, none⟩)) (.agg #[.int .i64 a0, .int .i64 a1, .int .i64 a2, .int .i64 a3])).run Try.prog w =
    if fits w g o 4 = true then .ok () (putRow w g o [a0, a1, a2, a3]) else (slowStore 59 g o (.agg (ints [a0, a1, a2, a3]))).run Try.prog w := by
  have h := run_store_bond w g o [a0, a1, a2, a3]
  simp only [List.length_cons, List.length_nil, Nat.reduceAdd, and_true] at h
  exact h
theorem eql_bond (xs ys : List Int) (hx : xs.length = 4) (hy : ys.length = 4) (w : World) : (binOp .eql 59 (.agg (ints xs)) (.agg (ints ys))).run Try.prog w = .ok (.bool (decide (xs = ys))) w :=
  run_eql_flat 5 _ xs ys w (by decide) (by kernel_rfl) (by kernel_rfl) (by rw [bond_cells]; exact hx) (by rw [bond_cells]; exact hy)
theorem neq_bond (xs ys : List Int) (hx : xs.length = 4) (hy : ys.length = 4) (w : World) : (binOp .neq 59 (.agg (ints xs)) (.agg (ints ys))).run Try.prog w = .ok (.bool (!decide (xs = ys))) w :=
  run_neq_flat 5 _ xs ys w (by decide) (by kernel_rfl) (by kernel_rfl) (by rw [bond_cells]; exact hx) (by rw [bond_cells]; exact hy)

theorem change_info : (Try.prog.info? 72).map (·.size) = some 20 := by kernel_rfl
theorem change_cells : Try.prog.cellsOf 72 = 20 := by kernel_rfl
@[go_sem ↓] theorem loadAt_change (v : Value) : Instr.loadAt 72 v = rowLoad 72 v := rfl
@[go_sem ↓] theorem storeAt_change (p v : Value) : Instr.storeAt 72 p v = rowStore 72 p v := rfl
@[go_sem] theorem run_load_change (w : World) (g o : Nat) : (rowLoad 72 (.pointer (some ⟨g, o, none⟩))).run Try.prog w = match row? w g o 20 with | some cs => .ok (.agg cs) w | none => (slowLoad 72 ⟨g, o, none⟩).run Try.prog w :=
  run_rowLoad w _ g o 20 _ Try.underlying72 rfl change_info
@[go_sem] theorem run_store_change (w : World) (g o : Nat) (xs : List Int) : (rowStore 72 (.pointer (some ⟨g, o, none⟩)) (.agg (ints xs))).run Try.prog w =
    if fits w g o 20 = true ∧ xs.length = 20 then .ok () (putRow w g o xs) else (slowStore 72 g o (.agg (ints xs))).run Try.prog w := run_rowStore w _ g o 20 xs change_info
@[go_sem] theorem run_store_change_lit (w : World) (g o : Nat) (a0 a1 a2 a3 a4 a5 a6 a7 a8 a9 a10 a11 a12 a13 a14 a15 a16 a17 a18 a19 : Int) : (rowStore 72 (.pointer (some ⟨g, o, none⟩)) (.agg #[.int .i64 a0, .int .i64 a1, .int .i64 a2, .int .i64 a3, .int .i64 a4, .int .i64 a5, .int .i64 a6, .int .i64 a7, .int .i64 a8, .int .i64 a9, .int .i64 a10, .int .i64 a11, .int .i64 a12, .int .i64 a13, .int .i64 a14, .int .i64 a15, .int .i64 a16, .int .i64 a17, .int .i64 a18, .int .i64 a19])).run Try.prog w =
    if fits w g o 20 = true then .ok () (putRow w g o [a0, a1, a2, a3, a4, a5, a6, a7, a8, a9, a10, a11, a12, a13, a14, a15, a16, a17, a18, a19]) else (slowStore 72 g o (.agg (ints [a0, a1, a2, a3, a4, a5, a6, a7, a8, a9, a10, a11, a12, a13, a14, a15, a16, a17, a18, a19]))).run Try.prog w := by
  have h := run_store_change w g o [a0, a1, a2, a3, a4, a5, a6, a7, a8, a9, a10, a11, a12, a13, a14, a15, a16, a17, a18, a19]
  simp only [List.length_cons, List.length_nil, Nat.reduceAdd, and_true] at h
  exact h
theorem eql_change (xs ys : List Int) (hx : xs.length = 20) (hy : ys.length = 20) (w : World) : (binOp .eql 72 (.agg (ints xs)) (.agg (ints ys))).run Try.prog w = .ok (.bool (decide (xs = ys))) w :=
  run_eql_flat 5 _ xs ys w (by decide) (by kernel_rfl) (by kernel_rfl) (by rw [change_cells]; exact hx) (by rw [change_cells]; exact hy)
theorem neq_change (xs ys : List Int) (hx : xs.length = 20) (hy : ys.length = 20) (w : World) : (binOp .neq 72 (.agg (ints xs)) (.agg (ints ys))).run Try.prog w = .ok (.bool (!decide (xs = ys))) w :=
  run_neq_flat 5 _ xs ys w (by decide) (by kernel_rfl) (by kernel_rfl) (by rw [change_cells]; exact hx) (by rw [change_cells]; exact hy)

theorem op_info : (Try.prog.info? 103).map (·.size) = some 16 := by kernel_rfl
theorem op_cells : Try.prog.cellsOf 103 = 16 := by kernel_rfl
@[go_sem ↓] theorem loadAt_op (v : Value) : Instr.loadAt 103 v = rowLoad 103 v := rfl
@[go_sem ↓] theorem storeAt_op (p v : Value) : Instr.storeAt 103 p v = rowStore 103 p v := rfl
@[go_sem] theorem run_load_op (w : World) (g o : Nat) : (rowLoad 103 (.pointer (some ⟨g, o, none⟩))).run Try.prog w = match row? w g o 16 with | some cs => .ok (.agg cs) w | none => (slowLoad 103 ⟨g, o, none⟩).run Try.prog w :=
  run_rowLoad w _ g o 16 _ Try.underlying103 rfl op_info
@[go_sem] theorem run_store_op (w : World) (g o : Nat) (xs : List Int) : (rowStore 103 (.pointer (some ⟨g, o, none⟩)) (.agg (ints xs))).run Try.prog w =
    if fits w g o 16 = true ∧ xs.length = 16 then .ok () (putRow w g o xs) else (slowStore 103 g o (.agg (ints xs))).run Try.prog w := run_rowStore w _ g o 16 xs op_info
@[go_sem] theorem run_store_op_lit (w : World) (g o : Nat) (a0 a1 a2 a3 a4 a5 a6 a7 a8 a9 a10 a11 a12 a13 a14 a15 : Int) : (rowStore 103 (.pointer (some ⟨g, o, none⟩)) (.agg #[.int .i64 a0, .int .i64 a1, .int .i64 a2, .int .i64 a3, .int .i64 a4, .int .i64 a5, .int .i64 a6, .int .i64 a7, .int .i64 a8, .int .i64 a9, .int .i64 a10, .int .i64 a11, .int .i64 a12, .int .i64 a13, .int .i64 a14, .int .i64 a15])).run Try.prog w =
    if fits w g o 16 = true then .ok () (putRow w g o [a0, a1, a2, a3, a4, a5, a6, a7, a8, a9, a10, a11, a12, a13, a14, a15]) else (slowStore 103 g o (.agg (ints [a0, a1, a2, a3, a4, a5, a6, a7, a8, a9, a10, a11, a12, a13, a14, a15]))).run Try.prog w := by
  have h := run_store_op w g o [a0, a1, a2, a3, a4, a5, a6, a7, a8, a9, a10, a11, a12, a13, a14, a15]
  simp only [List.length_cons, List.length_nil, Nat.reduceAdd, and_true] at h
  exact h
theorem eql_op (xs ys : List Int) (hx : xs.length = 16) (hy : ys.length = 16) (w : World) : (binOp .eql 103 (.agg (ints xs)) (.agg (ints ys))).run Try.prog w = .ok (.bool (decide (xs = ys))) w :=
  run_eql_flat 5 _ xs ys w (by decide) (by kernel_rfl) (by kernel_rfl) (by rw [op_cells]; exact hx) (by rw [op_cells]; exact hy)
theorem neq_op (xs ys : List Int) (hx : xs.length = 16) (hy : ys.length = 16) (w : World) : (binOp .neq 103 (.agg (ints xs)) (.agg (ints ys))).run Try.prog w = .ok (.bool (!decide (xs = ys))) w :=
  run_neq_flat 5 _ xs ys w (by decide) (by kernel_rfl) (by kernel_rfl) (by rw [op_cells]; exact hx) (by rw [op_cells]; exact hy)


theorem index_vals (xs : List Int) (k : Nat) (hk : k < 8) (hx : xs.length = 8) (w : World) : (Instr.index 37 (.agg (ints xs)) (.int .i64 (k : Int))).run Try.prog w = .ok (.int .i64 (xs.getD k 0)) w := by
  have h : (ints xs)[k]? = some (.int .i64 (xs.getD k 0)) := by rw [ints_at (by omega)]; simp [List.getD, List.getElem?_eq_getElem (show k < xs.length by omega)]
  have hs : (sizeOf 3).run Try.prog w = .ok 1 w := by kernel_rfl
  have hp : (part 3 (ints xs) k).run Try.prog w = .ok (.int .i64 (xs.getD k 0)) w := by
    have ha : (isAgg 3).run Try.prog w = .ok false w := by kernel_rfl
    simp [part, Sem.run_bind, ha, h]
  unfold Instr.index
  simp only [asIntOf, Sem.run_bind, Sem.run_pure, Result.andThen_ok, run_underlying Try.underlying37]
  rw [if_pos (by omega)]
  simp only [Sem.run_bind, hs, Result.andThen_ok, Int.toNat_natCast, Nat.mul_one, hp]

end Go.Proofs.Ytpgdobomcdpdbaa
