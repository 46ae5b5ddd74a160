/-
  Contracts of CheckQuery and system.Check.
-/
import Derived.Test.YtmocljblfccglaaChecks
namespace Go.Proofs.Ytmocljblfccglaa
open Go.RowKit

theorem matchQ_any (m : Int) (q : Query) (w : World) :
    Calls Try.prog 20 #[.int .i64 m, .agg (ints q.list)] w fun e w' => e = .returned (.bool (matchQ m q)) ∧ Below w.heap.size w w' := matches_any m q.need q.nt q.any w

theorem checkQuery_any (q : Query) (w : World) :
    Calls Try.prog 49 #[.agg (ints q.list)] w fun e w' => e = .returned (.int .i64 (queryErr q)) ∧ Below w.heap.size w w' := by
  have i0 : (ints q.list)[0]? = some (.int .i64 q.need) := rfl
  have i1 : (ints q.list)[1]? = some (.int .i64 q.nt) := rfl
  have i2 : (ints q.list)[2]? = some (.int .i64 q.any) := rfl
  have hdef : Hid (queryErr q = if isSetB q.need && isSetB q.nt && isSetB q.any then 0 else 1) := rfl
  cases ha : isSetB q.need <;> cases hb : isSetB q.nt <;> cases hc : isSetB q.any
  all_goals
    have HD := Lib.hid hdef.out
    rw [ha, hb, hc] at HD
    go_enter Try.func49, Try.ntmps49
    go_wp2_with fail
    refine (isSet_any _ _).mono ?_
    rintro e w' ⟨rfl, rfl⟩
    rw [ha]
    go_wp2_with fail
    try (refine (isSet_any _ _).mono ?_; rintro e w' ⟨rfl, rfl⟩; rw [hb]; go_wp2_with fail)
    try (refine (isSet_any _ _).mono ?_; rintro e w' ⟨rfl, rfl⟩; rw [hc]; go_wp2_with fail)
    go_ret
    exact ⟨ret_int HD.out.symm, (Below.refl _ _).alloc (Nat.le_refl _) _⟩

theorem isSet2_any (m : Int) (w : World) : Calls Try.prog 50 #[.int .i64 m] w fun e w' => e = .returned (.bool (isSetB m)) ∧ w = w' := by
  by_cases h : 0 ≤ m
  · have hv : Hid (isSetB m = decide (m ≤ 255)) := by simp [Hid, isSetB, h]
    go_enter Try.func50, Try.ntmps50
    go_wp2
    go_ret
    exact ⟨ret_bool hv.out.symm, rfl⟩
  · have hv : Hid (isSetB m = false) := by simp [Hid, isSetB, h]
    have h' : m < 0 := by omega
    clear h
    go_enter Try.func50, Try.ntmps50
    go_wp2
    go_ret
    exact ⟨ret_bool hv.out.symm, rfl⟩

theorem check_any (s : Sys) (w : World) :
    Calls Try.prog 35 #[.agg (ints s.list)] w fun e w' => e = .returned (.int .i64 (sysErr s)) ∧ Below w.heap.size w w' := by
  have hB0 : Hid (Blk (w.alloc (.cells (ints s.list) 58)) w.heap.size 58 (ints s.list)) := Blk.new _ _ _
  have hrow : row? (w.alloc (.cells (ints s.list) 58)) w.heap.size 0 3 = some (ints s.q.list) := hB0.out.row_ints 0 3 (by simp [Sys.list])
  have i3 : (ints s.list)[3]? = some (.int .i64 s.read) := rfl
  have i4 : (ints s.list)[4]? = some (.int .i64 s.write) := rfl
  have i5 : (ints s.list)[5]? = some (.int .i64 s.act) := rfl
  have i6 : (ints s.list)[6]? = some (.int .i64 s.n) := rfl
  by_cases hq : queryErr s.q = 0
  · have HD : Hid (sysErr s = if !(isSetB s.read) || !(isSetB s.write) || decide (s.act < 1) || decide (3 < s.act) || decide (s.n < -1000000) || decide (1000000 < s.n) then 1
        else if (decide (s.act = 3) && decide (s.n ≠ 0)) || (decide (s.act ≠ 2) && decide (s.read ≠ 0)) then 4 else 0) := by
      unfold Hid sysErr; rw [if_neg (by simp [hq])]
    cases hr : isSetB s.read <;> cases hw : isSetB s.write
    all_goals
      go_enter Try.func35, Try.ntmps35
      go_wp2_with fail
      refine (checkQuery_any _ _).mono ?_
      rintro e w1 ⟨rfl, hb1⟩
      rw [hq]
      have hB1 : Blk w1 w.heap.size 58 (ints s.list) := hB0.out.after hb1
      have k3 : w1.cell? ⟨w.heap.size, 3, none⟩ = some (.int .i64 s.read) := hB1.cell 3
      have k4 : w1.cell? ⟨w.heap.size, 4, none⟩ = some (.int .i64 s.write) := hB1.cell 4
      have k5 : w1.cell? ⟨w.heap.size, 5, none⟩ = some (.int .i64 s.act) := hB1.cell 5
      have k6 : w1.cell? ⟨w.heap.size, 6, none⟩ = some (.int .i64 s.n) := hB1.cell 6
      have hb1 := Lib.hid (((Below.refl w.heap.size w).alloc (Nat.le_refl _) (.cells (ints s.list) 58)).trans (hb1.mono (by simp)))
      rename_i hbx
      clear hbx hB1 i3 i4 i5 i6 hrow
      rw [hr, hw] at HD
      clear hq
      go_wp2_with fail
      refine (isSet2_any _ _).mono ?_
      rintro e w' ⟨rfl, rfl⟩
      rw [hr]
      go_wp2_with fail
      try (refine (isSet2_any _ _).mono ?_; rintro e w' ⟨rfl, rfl⟩; rw [hw]; go_wp2_with fail)
      all_goals go_ret
      all_goals
        refine ⟨ret_int ?_, hb1.out⟩
        rw [HD.out]
        first
          | rfl
          | (simp only [Bool.not_true, Bool.not_false, Bool.false_or, Bool.true_or, Bool.or_eq_true, Bool.and_eq_true, decide_eq_true_eq, bne_iff_ne, ne_eq, bne_eq_false_iff_eq] at *
             repeat' split
             all_goals first | rfl | omega)
  · have HD : Hid (sysErr s = queryErr s.q) := by unfold Hid sysErr; rw [if_pos hq]
    have h1 : (queryErr s.q != 0) = true := by simpa using hq
    clear hq
    go_enter Try.func35, Try.ntmps35
    go_wp2_with fail
    refine (checkQuery_any _ _).mono ?_
    rintro e w1 ⟨rfl, hb1⟩
    have hb1 := Lib.hid (((Below.refl w.heap.size w).alloc (Nat.le_refl _) (.cells (ints s.list) 58)).trans (hb1.mono (by simp)))
    go_wp2_with fail
    go_ret
    exact ⟨ret_int HD.out.symm, hb1.out⟩

end Go.Proofs.Ytmocljblfccglaa
