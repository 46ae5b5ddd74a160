/-
  Handles as keys of a map.
-/
import Derived.Test.YtpgdobomcdpdbaaMapMem
namespace Go.Proofs.Ytpgdobomcdpdbaa
open Go.RowKit

theorem check_int (n : Nat) (em : Bool) (v : Value) (w : World) : (Instr.checkKey em (n + 1) 3 v).run Try.prog w = .ok () w := by
  unfold Instr.checkKey
  rw [Sem.run_bind, run_underlying Try.underlying3]
  rfl
theorem check_handle (w : World) (em : Bool) (xs : List Int) (h : xs.length = 2) : (Instr.checkKey em 10000 36 (.agg (ints xs))).run Try.prog w = .ok () w := by
  have p0 : (part 3 (ints xs) 0).run Try.prog w = .ok (.int .i64 (xs.getD 0 0)) w := by
    have := part_flat (P := Try.prog) w 1 3 xs 0 (by kernel_rfl) (by rw [show Try.prog.cellsOf 3 = 1 from by kernel_rfl]; omega)
    rw [this, show Try.prog.cellsOf 3 = 1 from by kernel_rfl]
    simp [valOf, Try.underlying3, seg, List.getD]
  have p1 : (part 3 (ints xs) 1).run Try.prog w = .ok (.int .i64 (xs.getD 1 0)) w := by
    have := part_flat (P := Try.prog) w 1 3 xs 1 (by kernel_rfl) (by rw [show Try.prog.cellsOf 3 = 1 from by kernel_rfl]; omega)
    rw [this, show Try.prog.cellsOf 3 = 1 from by kernel_rfl]
    simp [valOf, Try.underlying3, seg, List.getD]
  have c0 := fun v => check_int 9998 em v w
  rw [show (10000 : Nat) = (9998 + 1) + 1 from rfl]
  unfold Instr.checkKey
  rw [Sem.run_bind, run_underlying Try.underlying36]
  simp [p0, p1, c0]
theorem keyH : KeyOk Try.prog 36 (fun xs : List Int => .agg (ints xs)) (fun xs => xs.length = 2) :=
  flatKey 3 (by omega) Try.underlying36 (by kernel_rfl) (by kernel_rfl) check_handle

end Go.Proofs.Ytpgdobomcdpdbaa
