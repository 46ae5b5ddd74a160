/-
  Several texts in one (merged by a program of mine): Checks, Checks2.
-/
import Derived.Test.YtpgcghnlepnoiaaGreatMP9
set_option linter.unusedVariables false
set_option linter.unusedSimpArgs false
set_option linter.unusedSectionVars false
/-
  Contracts of the checks: isSet, CheckBeast, CheckQuery, system.Check, and mask.Matches at a query.
-/
namespace Go.Proofs.YtpgcghnlepnoiaaGreat
open Go.RowKit

theorem isSet_any (m : Int) (w : World) : Calls Tryz.prog 52 #[.int .i64 m] w fun e w' => e = .returned (.bool (isSetB m)) ∧ w = w' := by
  by_cases h : 0 ≤ m
  · have hv : Hid (isSetB m = decide (m ≤ 255)) := by simp [Hid, isSetB, h]
    go_enter Tryz.func52, Tryz.ntmps52
    go_wp2
    go_ret
    exact ⟨ret_bool hv.out.symm, rfl⟩
  · have hv : Hid (isSetB m = false) := by simp [Hid, isSetB, h]
    have h' : m < 0 := by omega
    clear h
    go_enter Tryz.func52, Tryz.ntmps52
    go_wp2
    go_ret
    exact ⟨ret_bool hv.out.symm, rfl⟩

theorem checkBeast_any (b : Beast) (hb : b.v.length = 8) (w : World) :
    Calls Tryz.prog 28 #[.agg (ints b.list)] w fun e w' => e = .returned (.int .i64 (beastErr b)) ∧ Below w.heap.size w w' := by
  have i0 : (ints b.list)[0]? = some (.int .i64 b.k) := rfl
  have hrow : row? (w.alloc (.cells (ints b.list) 25)) w.heap.size 1 8 = some (ints b.v) := by
    rw [(Blk.new w 25 (ints b.list)).row_ints 1 8 (by simp [Beast.list, hb])]
    simp [Beast.list, ← hb]
  have HB := Lib.hid hb
  clear hb
  by_cases hs : isSetB b.k = true
  · have hk : 0 ≤ b.k ∧ b.k ≤ 255 := by simpa [isSetB] using hs
    have hK : Hid (((b.k.toNat : Nat) : Int) = b.k) := by unfold Hid; omega
    have hK2 : b.k.toNat < 256 := by omega
    have hEN := Lib.hid (beastErr_none b hs)
    have hEA := Lib.hid (fun j hj => beastErr_at b j hj hs)
    go_enter Tryz.func28, Tryz.ntmps28
    go_wp2_with fail
    refine (isSet_any b.k _).mono ?_
    rintro e w' ⟨rfl, rfl⟩
    rw [hs]
    clear hs
    go_wp2_with fail
    go_loop [11] (fun i => ∃ k : Nat, k ≤ 8 ∧ i = .int .i64 k ∧ ∀ j, j < k → valErr b j = 0) (fun i => 8 - (intOf i).toNat)
    case atStart => exact ⟨0, by omega, rfl, by omega⟩
    case round =>
      obtain ⟨k, hk8, rfl, h0⟩ := hrel
      have H0 := Lib.hid h0
      clear h0
      by_cases hlt : k < 8
      · have hidx := index_vals b.v k hlt HB.out
        have hv : valErr b k = if b.k.toNat.testBit k = false ∧ b.v.getD k 0 ≠ 0 then 4 else if b.v.getD k 0 < -1000000000 ∨ 1000000000 < b.v.getD k 0 then 1 else 0 := rfl
        have hbit := and_bit b.k.toNat k hK2 hlt
        rw [hK.out] at hbit
        generalize b.v.getD k 0 = x at *
        have hE := fun he => hEA.out k hlt H0.out he
        cases hB : b.k.toNat.testBit k with
        | false =>
          rw [hB] at hv hbit
          have h1 : (bits BinOp.and IntKind.i64 (b.k / 2 ^ k) 1 == 0) = true := by rw [hbit]; rfl
          by_cases hx : x = 0
          · have h2 : (x != 0) = false := by simp [hx]
            have h3 : ¬ x < -1000000000 := by omega
            have h4 : ¬ 1000000000 < x := by omega
            have HN : Hid (∀ j, j < k + 1 → valErr b j = 0) := by
              intro j hj
              by_cases hjk : j = k
              · subst hjk; rw [hv]; simp [hx]
              · exact H0.out j (by omega)
            clear hx hv hbit hB hE
            go_wp2
            go_round
            case rel => exact ⟨k + 1, by omega, by go_num, HN.out⟩
            case measure => simp [intOf]; omega
          · have h2 : (x != 0) = true := by simpa using hx
            have HN : Hid (beastErr b = 4) := by
              unfold Hid
              have : valErr b k = 4 := by rw [hv]; simp [hx]
              rw [hE (by omega), this]
            clear hx hv hbit hB hE
            go_wp2
            go_ret
            exact ⟨ret_int HN.out.symm, (Below.refl _ _).alloc (Nat.le_refl _) _⟩
        | true =>
          rw [hB] at hv hbit
          have h1 : (bits BinOp.and IntKind.i64 (b.k / 2 ^ k) 1 == 0) = false := by rw [hbit]; rfl
          by_cases hx : x < -1000000000
          · have HN : Hid (beastErr b = 1) := by
              unfold Hid
              have : valErr b k = 1 := by rw [hv]; simp [hx]
              rw [hE (by omega), this]
            clear hv hbit hB hE
            go_wp2
            go_ret
            exact ⟨ret_int HN.out.symm, (Below.refl _ _).alloc (Nat.le_refl _) _⟩
          · by_cases hx2 : 1000000000 < x
            · have HN : Hid (beastErr b = 1) := by
                unfold Hid
                have : valErr b k = 1 := by rw [hv]; simp [hx2]
                rw [hE (by omega), this]
              clear hv hbit hB hE
              go_wp2
              go_ret
              exact ⟨ret_int HN.out.symm, (Below.refl _ _).alloc (Nat.le_refl _) _⟩
            · have HN : Hid (∀ j, j < k + 1 → valErr b j = 0) := by
                intro j hj
                by_cases hjk : j = k
                · subst hjk; rw [hv]; simp [hx, hx2]
                · exact H0.out j (by omega)
              clear hv hbit hB hE
              go_wp2
              go_round
              case rel => exact ⟨k + 1, by omega, by go_num, HN.out⟩
              case measure => simp [intOf]; omega
      · have hk' : k = 8 := by omega
        subst hk'
        have HN := Lib.hid (hEN.out H0.out)
        go_wp2
        go_ret
        exact ⟨ret_int HN.out.symm, (Below.refl _ _).alloc (Nat.le_refl _) _⟩
  · have hs' : isSetB b.k = false := by simpa using hs
    have HN : Hid (beastErr b = 1) := by unfold Hid beastErr; rw [if_neg hs]
    go_enter Tryz.func28, Tryz.ntmps28
    go_wp2_with fail
    refine (isSet_any b.k _).mono ?_
    rintro e w' ⟨rfl, rfl⟩
    rw [hs']
    clear hs hs'
    go_wp2_with fail
    go_ret
    exact ⟨ret_int HN.out.symm, (Below.refl _ _).alloc (Nat.le_refl _) _⟩

end Go.Proofs.YtpgcghnlepnoiaaGreat

/-
  Contracts of CheckQuery and system.Check.
-/
namespace Go.Proofs.YtpgcghnlepnoiaaGreat
open Go.RowKit

theorem matchQ_any (m : Int) (q : Query) (w : World) :
    Calls Tryz.prog 70 #[.int .i64 m, .agg (ints q.list)] w fun e w' => e = .returned (.bool (matchQ m q)) ∧ Below w.heap.size w w' := matches_any m q.need q.nt q.any w

theorem checkQuery_any (q : Query) (w : World) :
    Calls Tryz.prog 75 #[.agg (ints q.list)] w fun e w' => e = .returned (.int .i64 (queryErr q)) ∧ Below w.heap.size w w' := by
  have i0 : (ints q.list)[0]? = some (.int .i64 q.need) := rfl
  have i1 : (ints q.list)[1]? = some (.int .i64 q.nt) := rfl
  have i2 : (ints q.list)[2]? = some (.int .i64 q.any) := rfl
  have hdef : Hid (queryErr q = if isSetB q.need && isSetB q.nt && isSetB q.any then 0 else 1) := rfl
  cases ha : isSetB q.need <;> cases hb : isSetB q.nt <;> cases hc : isSetB q.any
  all_goals
    have HD := Lib.hid hdef.out
    rw [ha, hb, hc] at HD
    go_enter Tryz.func75, Tryz.ntmps75
    go_wp2_with fail
    refine (isSet_any _ _).mono ?_
    rintro e w' ⟨rfl, rfl⟩
    rw [ha]
    go_wp2_with fail
    try (refine (isSet_any _ _).mono ?_; rintro e w' ⟨rfl, rfl⟩; rw [hb]; go_wp2_with fail)
    try (refine (isSet_any _ _).mono ?_; rintro e w' ⟨rfl, rfl⟩; rw [hc]; go_wp2_with fail)
    go_ret
    exact ⟨ret_int HD.out.symm, (Below.refl _ _).alloc (Nat.le_refl _) _⟩

theorem isSet2_any (m : Int) (w : World) : Calls Tryz.prog 91 #[.int .i64 m] w fun e w' => e = .returned (.bool (isSetB m)) ∧ w = w' := by
  by_cases h : 0 ≤ m
  · have hv : Hid (isSetB m = decide (m ≤ 255)) := by simp [Hid, isSetB, h]
    go_enter Tryz.func91, Tryz.ntmps91
    go_wp2
    go_ret
    exact ⟨ret_bool hv.out.symm, rfl⟩
  · have hv : Hid (isSetB m = false) := by simp [Hid, isSetB, h]
    have h' : m < 0 := by omega
    clear h
    go_enter Tryz.func91, Tryz.ntmps91
    go_wp2
    go_ret
    exact ⟨ret_bool hv.out.symm, rfl⟩

theorem check_any (s : Sys) (w : World) :
    Calls Tryz.prog 67 #[.agg (ints s.list)] w fun e w' => e = .returned (.int .i64 (sysErr s)) ∧ Below w.heap.size w w' := by
  have hB0 : Hid (Blk (w.alloc (.cells (ints s.list) 54)) w.heap.size 54 (ints s.list)) := Blk.new _ _ _
  have hrow : row? (w.alloc (.cells (ints s.list) 54)) w.heap.size 0 3 = some (ints s.q.list) := hB0.out.row_ints 0 3 (by simp [Sys.list])
  have i3 : (ints s.list)[3]? = some (.int .i64 s.read) := rfl
  have i4 : (ints s.list)[4]? = some (.int .i64 s.write) := rfl
  have i5 : (ints s.list)[5]? = some (.int .i64 s.act) := rfl
  have i6 : (ints s.list)[6]? = some (.int .i64 s.n) := rfl
  by_cases hq : queryErr s.q = 0
  · have HD : Hid (sysErr s = if !(isSetB s.read) || !(isSetB s.write) || decide (s.act < 1) || decide (3 < s.act) || decide (s.n < -1000000) || decide (1000000 < s.n) then 1
        else if (decide (s.act = 3) && decide (s.n ≠ 0)) || (decide (s.act ≠ 2) && decide (s.read ≠ 0)) then 4 else 0) := by
      unfold Hid sysErr; rw [if_neg (by simp [hq])]
    cases hr : isSetB s.read <;> cases hw : isSetB s.write
    all_goals
      go_enter Tryz.func67, Tryz.ntmps67
      go_wp2_with fail
      refine (checkQuery_any _ _).mono ?_
      rintro e w1 ⟨rfl, hb1⟩
      rw [hq]
      have hB1 : Blk w1 w.heap.size 54 (ints s.list) := hB0.out.after hb1
      have k3 : w1.cell? ⟨w.heap.size, 3, none⟩ = some (.int .i64 s.read) := hB1.cell 3
      have k4 : w1.cell? ⟨w.heap.size, 4, none⟩ = some (.int .i64 s.write) := hB1.cell 4
      have k5 : w1.cell? ⟨w.heap.size, 5, none⟩ = some (.int .i64 s.act) := hB1.cell 5
      have k6 : w1.cell? ⟨w.heap.size, 6, none⟩ = some (.int .i64 s.n) := hB1.cell 6
      have hb1 := Lib.hid (((Below.refl w.heap.size w).alloc (Nat.le_refl _) (.cells (ints s.list) 54)).trans (hb1.mono (by simp)))
      rename_i hbx
      clear hbx hB1 i3 i4 i5 i6 hrow
      rw [hr, hw] at HD
      clear hq
      go_wp2_with fail
      refine (isSet2_any _ _).mono ?_
      rintro e w' ⟨rfl, rfl⟩
      rw [hr]
      go_wp2_with fail
      try (refine (isSet2_any _ _).mono ?_; rintro e w' ⟨rfl, rfl⟩; rw [hw]; go_wp2_with fail)
      all_goals go_ret
      all_goals
        refine ⟨ret_int ?_, hb1.out⟩
        rw [HD.out]
        first
          | rfl
          | (simp only [Bool.not_true, Bool.not_false, Bool.false_or, Bool.true_or, Bool.or_eq_true, Bool.and_eq_true, decide_eq_true_eq, bne_iff_ne, ne_eq, bne_eq_false_iff_eq] at *
             repeat' split
             all_goals first | rfl | omega)
  · have HD : Hid (sysErr s = queryErr s.q) := by unfold Hid sysErr; rw [if_pos hq]
    have h1 : (queryErr s.q != 0) = true := by simpa using hq
    clear hq
    go_enter Tryz.func67, Tryz.ntmps67
    go_wp2_with fail
    refine (checkQuery_any _ _).mono ?_
    rintro e w1 ⟨rfl, hb1⟩
    have hb1 := Lib.hid (((Below.refl w.heap.size w).alloc (Nat.le_refl _) (.cells (ints s.list) 54)).trans (hb1.mono (by simp)))
    go_wp2_with fail
    go_ret
    exact ⟨ret_int HD.out.symm, hb1.out⟩

end Go.Proofs.YtpgcghnlepnoiaaGreat
