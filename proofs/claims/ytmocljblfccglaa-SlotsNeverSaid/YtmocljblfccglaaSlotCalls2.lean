/-
  Contracts of the slots' methods.
-/
import Derived.Test.YtmocljblfccglaaSlotCalls
import Derived.Test.YtmocljblfccglaaQuiet
import Derived.StillTailTactics
import Derived.BigQuiet
import Derived.Deep.DeepCutAuto
namespace Go.Proofs.Ytmocljblfccglaa
open Go.RowKit

def liveB (ls : List (Int × Bool)) (a b : Int) : Bool := decide (0 ≤ a) && decide (a < ls.length) && (decide ((ls.getD a.toNat (0, false)).1 = b) && (ls.getD a.toNat (0, false)).2)

theorem live_any (p : Nat) (ls : List (Int × Bool)) (F : Nat → Prop) (a b : Int) (w : World) (h : SlotsAt w p ls F) :
    Calls Try.prog 25 #[.pointer (some ⟨p, 0, none⟩), .agg #[.int .i64 a, .int .i64 b]] w fun e w' => e = .returned (.bool (liveB ls a b)) ∧ Below w.heap.size w w' := by
  obtain ⟨A, c, f1, f2, f3, f4, f5, f6, f7⟩ := h.facts
  have hp := h.lt
  have hd : Hid (liveB ls a b = (decide (0 ≤ a) && decide (a < ls.length) && (decide ((ls.getD a.toNat (0, false)).1 = b) && (ls.getD a.toNat (0, false)).2))) := rfl
  have F1 := Lib.hid f1
  have F7 := Lib.hid f7
  clear f1 f2 f5 f6 f7 h
  go_enter Try.func25, Try.ntmps25
  go_upto_region 1 with (fail)
  have hB0 : Blk (w.alloc (.cells #[.int .i64 a, .int .i64 b] 42)) w.heap.size 42 #[.int .i64 a, .int .i64 b] := Blk.new _ _ _
  refine wp_abs (fun w' => Blk w' w.heap.size 42 #[.int .i64 a, .int .i64 b] ∧ Below w.heap.size w w') ⟨hB0, (Below.refl _ _).alloc (Nat.le_refl _) _⟩ ?_
  rintro w1 ⟨hB1, hb1⟩
  have HB1 := Lib.hid hb1
  have c1 : ∀ n : After w1, n.w.cell? ⟨w.heap.size, 0, none⟩ = some (.int .i64 a) := fun n => n.cell (hB1.cell 0)
  have c2 : ∀ n : After w1, n.w.cell? ⟨w.heap.size, 1, none⟩ = some (.int .i64 b) := fun n => n.cell (hB1.cell 1)
  have c3 : ∀ n : After w1, n.w.cell? ⟨p, 0, none⟩ = some (.slice A ls.length c) := fun n => n.cell ((hb1.cell (p := ⟨p, 0, none⟩) hp).trans F1.out)
  clear hB0 hB1 hb1
  by_cases ha0 : 0 ≤ a
  rotate_left
  · have h1 : decide (0 ≤ a) = false := by simpa using ha0
    have HD : Hid (liveB ls a b = false) := by unfold Hid; rw [hd.out, h1]; rfl
    refine wp_region_after (by kernel_rfl) (by kernel_rfl) ?_
    repeat (go_big_quiet_step (fail))
    refine wpQuiet_nil ?_
    rintro _ ⟨n, rfl⟩
    go_wp2_with fail
    go_ret
    exact ⟨ret_bool HD.out.symm, HB1.out.trans (n.below.mono HB1.out.size)⟩
  by_cases ha1 : a < ls.length
  rotate_left
  · have h1 : decide (0 ≤ a) = true := by simpa using ha0
    have h2 : decide (a < ls.length) = false := by simpa using ha1
    have HD : Hid (liveB ls a b = false) := by unfold Hid; rw [hd.out, h1, h2]; rfl
    refine wp_region_after (by kernel_rfl) (by kernel_rfl) ?_
    repeat (go_big_quiet_step (fail))
    refine wpQuiet_nil ?_
    rintro _ ⟨n, rfl⟩
    go_wp2_with fail
    go_ret
    exact ⟨ret_bool HD.out.symm, HB1.out.trans (n.below.mono HB1.out.size)⟩
  obtain ⟨k, rfl⟩ : ∃ k : Nat, a = k := ⟨a.toNat, by omega⟩
  obtain ⟨g, rfl, hg1, hg2, hg3, hg4, hg5, hg6, hg7, hg8, hg9⟩ := F7.out k (by omega)
  have c4 : ∀ n : After w1, row? n.w g (k * 2) 2 = some #[.int .i64 (ls.getD k (0, false)).1, .bool (ls.getD k (0, false)).2] := fun n => (row_below n.below (by have := HB1.out.size; omega) _ _).trans ((row_below HB1.out hg3 _ _).trans hg7)
  rw [Int.toNat_natCast] at hd
  clear hg4 hg5 hg6 hg7 hg8 hg9
  have h2 : decide ((k : Int) < ls.length) = true := by simpa using ha1
  have heq : ∀ W x y, (binOp .eql 78 (.agg #[.int .i64 x, .bool y]) (.agg #[.int .i64 b, .bool true])).run Try.prog W = .ok (.bool (decide (x = b) && y)) W := fun W x y => by rw [eql_slot]; simp
  have HD : Hid (liveB ls k b = (decide ((ls.getD k (0, false)).1 = b) && (ls.getD k (0, false)).2)) := by
    unfold Hid; rw [hd.out, h2, decide_eq_true ha0]; rfl
  generalize ls.getD k (0, false) = x at *
  obtain ⟨x, y⟩ := x
  simp only at HD c4
  refine wp_region_after (by kernel_rfl) (by kernel_rfl) ?_
  repeat (go_big_quiet_step (fail))
  refine wpQuiet_nil ?_
  rintro _ ⟨n, rfl⟩
  go_wp2_with fail
  go_ret
  exact ⟨ret_bool HD.out.symm, HB1.out.trans (n.below.mono HB1.out.size)⟩

end Go.Proofs.Ytmocljblfccglaa
