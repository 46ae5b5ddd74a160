/-
  The walk of MaskParts.
-/
import Derived.Test.YtmocljblfccglaaMask
import Derived.Test.YtmocljblfccglaaQuiet
namespace Go.Proofs.Ytmocljblfccglaa
open Go.RowKit

theorem matches_is {m a b c : Int} {v : Bool} (h : matchB m a b c = v) (w : World) :
    Calls Try.prog 20 #[.int .i64 m, .agg #[.int .i64 a, .int .i64 b, .int .i64 c]] w fun e w' => e = .returned (.bool v) ∧ Below w.heap.size w w' := h ▸ matches_any m a b c w

set_option maxHeartbeats 4000000 in
theorem maskParts_any (m a b c : Int) (hm : Fits m) (w : World) :
    Calls Try.prog 5 #[.int .i64 m, .agg #[.int .i64 a, .int .i64 b, .int .i64 c]] w fun e w' => e = .returned (.bool true) ∧ Below w.heap.size w w' := by
  have hp := parts (m := m) (a := a) (b := b) (c := c)
  have h0 := Lib.hid (matches_none m)
  have hs := Lib.hid (matches_self hm)
  generalize hv : matchB m a b c = V at *
  generalize hvA : matchB m a 0 0 = VA at *
  generalize hvB : matchB m 0 b 0 = VB at *
  generalize hvC : matchB m 0 0 c = VC at *
  have HV := Lib.hid hv
  have HA := Lib.hid hvA
  have HB := Lib.hid hvB
  have HC := Lib.hid hvC
  clear hv hvA hvB hvC
  cases VA <;> cases VB <;> cases VC <;> simp at hp <;> subst hp
  all_goals
    go_enter Try.func5, Try.ntmps5
    go_wp2_with fail
    have k0 := fun n : After _ => n.cell (show (w.alloc (.cells #[.int .i64 a, .int .i64 b, .int .i64 c] 33)).cell? ⟨w.heap.size, 0, none⟩ = some (.int .i64 a) by go_simp)
    have k1 := fun n : After _ => n.cell (show (w.alloc (.cells #[.int .i64 a, .int .i64 b, .int .i64 c] 33)).cell? ⟨w.heap.size, 1, none⟩ = some (.int .i64 b) by go_simp)
    have k2 := fun n : After _ => n.cell (show (w.alloc (.cells #[.int .i64 a, .int .i64 b, .int .i64 c] 33)).cell? ⟨w.heap.size, 2, none⟩ = some (.int .i64 c) by go_simp)
    refine wp_region_after (by kernel_rfl) (by kernel_rfl) ?_
    repeat (go_big_quiet_step (first
      | (go_at_call 14; exact quiet_after (masked_any _))
      | (go_at_call 20; with_reducible exact quiet_after (matches_is HV.out _))
      | (go_at_call 20; with_reducible exact quiet_after (matches_is HA.out _))
      | (go_at_call 20; with_reducible exact quiet_after (matches_is HB.out _))
      | (go_at_call 20; with_reducible exact quiet_after (matches_is HC.out _))
      | (go_at_call 20; with_reducible exact quiet_after (matches_is h0.out _))
      | (go_at_call 20; with_reducible exact quiet_after (matches_is hs.out _))))
    refine wpQuiet_nil ?_
    rintro _ ⟨n, rfl⟩
    go_wp2_with fail
    go_ret
    exact ⟨rfl, ((Below.refl _ _).alloc (Nat.le_refl _) _).trans (n.below.mono (by simp))⟩

end Go.Proofs.Ytmocljblfccglaa
