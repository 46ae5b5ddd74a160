/-
  Several texts in one (merged by a program of mine): FamCmp.
-/
import Derived.Test.YtpgcghnlepnoiaaGreatMP32
import Derived.Sort.Grow
set_option linter.unusedVariables false
set_option linter.unusedSimpArgs false
set_option linter.unusedSectionVars false
/-
  The order of handles: cmp.Compare, cmp.Or, family.Compare.
-/
namespace Go.Proofs.YtpgcghnlepnoiaaGreat
open Go.RowKit

def cmpI (x y : Int) : Int := if x < y then -1 else if y < x then 1 else 0
def cmpH (a b : Hd) : Int := if cmpI a.1 b.1 = 0 then cmpI a.2 b.2 else cmpI a.1 b.1
theorem cmpI_neg (x y : Int) : cmpI x y < 0 ↔ x < y := by
  unfold cmpI
  split
  · simp_all
  · split <;> simp_all
theorem cmpI_zero (x y : Int) : cmpI x y = 0 ↔ x = y := by
  unfold cmpI
  split
  · simp; omega
  · split
    · simp; omega
    · simp; omega
theorem cmpH_neg (a b : Hd) : decide (cmpH a b < 0) = hLt a b := by
  unfold cmpH hLt
  rw [Bool.eq_iff_iff]
  simp only [decide_eq_true_eq, Bool.or_eq_true, Bool.and_eq_true]
  split
  · rename_i h
    have := (cmpI_zero _ _).1 h
    rw [cmpI_neg]; omega
  · rename_i h
    rw [cmpI_neg]
    have : a.1 ≠ b.1 := fun e => h ((cmpI_zero _ _).2 e)
    omega

theorem isNaN_any (x : Int) (w : World) : Calls Tryz.prog 100 #[.int .i64 x] w fun e w' => e = .returned (.bool false) ∧ w = w' := by
  go_enter Tryz.func100, Tryz.ntmps100
  go_wp2_with fail
  go_ret
  exact ⟨ret_bool (by simp), rfl⟩
theorem cmpInt_any (x y : Int) (w : World) : Calls Tryz.prog 80 #[.int .i64 x, .int .i64 y] w fun e w' => e = .returned (.int .i64 (cmpI x y)) ∧ w = w' := by
  have HX : Hid (x < y → cmpI x y = -1) := fun h => by unfold cmpI; rw [if_pos h]
  have HY : Hid (¬ x < y → y < x → cmpI x y = 1) := fun h h' => by unfold cmpI; rw [if_neg h, if_pos h']
  have HZ : Hid (¬ x < y → ¬ y < x → cmpI x y = 0) := fun h h' => by unfold cmpI; rw [if_neg h, if_neg h']
  go_enter Tryz.func80, Tryz.ntmps80
  go_wp2_with fail
  refine (isNaN_any x w).mono ?_
  rintro e w' ⟨rfl, rfl⟩
  go_wp2_with fail
  refine (isNaN_any y w).mono ?_
  rintro e w' ⟨rfl, rfl⟩
  by_cases h1 : x < y
  · go_wp2_with fail
    go_ret
    exact ⟨ret_int (HX.out h1).symm, rfl⟩
  · by_cases h2 : y < x
    · go_wp2_with fail
      go_ret
      exact ⟨ret_int (HY.out h1 h2).symm, rfl⟩
    · go_wp2_with fail
      go_ret
      exact ⟨ret_int (HZ.out h1 h2).symm, rfl⟩
theorem cmpOr_any (b : Nat) (x y : Int) (w : World) (h0 : w.cell? ⟨b, 0, none⟩ = some (.int .i64 x)) (h1 : w.cell? ⟨b, 1, none⟩ = some (.int .i64 y)) :
    Calls Tryz.prog 102 #[.slice (some ⟨b, 0, none⟩) 2 2] w fun e w' => e = .returned (.int .i64 (if x = 0 then y else x)) ∧ w = w' := by
  have HX : Hid (¬ x = 0 → (if x = 0 then y else x) = x) := fun h => by rw [if_neg h]
  have HY : Hid (x = 0 → (if x = 0 then y else x) = y) := fun h => by rw [if_pos h]
  generalize (if x = 0 then y else x) = r at *
  go_enter Tryz.func102, Tryz.ntmps102
  go_wp2_with fail
  go_loopw [8] (fun i w' => ∃ k : Nat, k ≤ 2 ∧ i = .int .i64 k ∧ (0 < k → x = 0) ∧ (1 < k → y = 0) ∧ w = w') (fun i _ => 2 - (intOf i).toNat)
  case atStart => exact ⟨0, by omega, rfl, fun h => by omega, fun h => by omega, rfl⟩
  case round =>
    obtain ⟨k, hk, rfl, ha, hb, rfl⟩ := hrel
    have HA := Lib.hid ha
    have HB := Lib.hid hb
    clear ha hb
    match k, hk with
    | 0, _ =>
      by_cases hx : x = 0
      · have HX0 := Lib.hid hx
        have hd : (x != 0) = false := by simp [hx]
        clear hx
        go_wp2_with fail
        go_roundw
        case rel => exact ⟨1, by omega, rfl, fun _ => HX0.out, fun h => by omega, trivial⟩
        case measure => simp [intOf]
      · have HX0 := Lib.hid hx
        have hd : (x != 0) = true := by simp [hx]
        clear hx
        go_wp2_with fail
        go_ret
        exact ⟨ret_int (HX.out HX0.out).symm, rfl⟩
    | 1, _ =>
      by_cases hx : y = 0
      · have HX0 := Lib.hid hx
        have hd : (y != 0) = false := by simp [hx]
        clear hx
        go_wp2_with fail
        go_roundw
        case rel => exact ⟨2, by omega, rfl, fun _ => HA.out (by omega), fun _ => HX0.out, trivial⟩
        case measure => simp [intOf]
      · have hd : (y != 0) = true := by simp [hx]
        clear hx
        go_wp2_with fail
        go_ret
        exact ⟨ret_int (HY.out (HA.out (by omega))).symm, rfl⟩
    | 2, _ =>
      go_wp2_with fail
      go_ret
      exact ⟨ret_int (by rw [HY.out (HA.out (by omega))]; exact (HB.out (by omega)).symm), rfl⟩

set_option maxRecDepth 100000 in
theorem compare_any (a b : Hd) (w : World) : Calls Tryz.prog 83 #[hdV a, hdV b] w fun e w' => e = .returned (.int .i64 (cmpH a b)) ∧ ∃ q os, w' = Sort.grow (w.drewN q) os := by
  obtain ⟨a1, a2⟩ := a
  obtain ⟨b1, b2⟩ := b
  have HR : Hid (cmpH (a1, a2) (b1, b2) = if cmpI a1 b1 = 0 then cmpI a2 b2 else cmpI a1 b1) := rfl
  rw [hdV_eq, hdV_eq]
  go_enter Tryz.func83, Tryz.ntmps83
  go_upto_region 1 with (fail)
  have c1 : ((w.alloc (.cells #[.int .i64 a1, .int .i64 a2] 30)).alloc (.cells #[.int .i64 b1, .int .i64 b2] 30)).cell? ⟨w.heap.size, 0, none⟩ = some (.int .i64 a1) := ((Blk.new w _ _).alloc _).cell 0
  have c2 : ((w.alloc (.cells #[.int .i64 a1, .int .i64 a2] 30)).alloc (.cells #[.int .i64 b1, .int .i64 b2] 30)).cell? ⟨w.heap.size, 1, none⟩ = some (.int .i64 a2) := ((Blk.new w _ _).alloc _).cell 1
  have c3 : ((w.alloc (.cells #[.int .i64 a1, .int .i64 a2] 30)).alloc (.cells #[.int .i64 b1, .int .i64 b2] 30)).cell? ⟨w.heap.size + 1, 0, none⟩ = some (.int .i64 b1) := by
    have := (Blk.new (w.alloc (.cells #[.int .i64 a1, .int .i64 a2] 30)) 30 #[.int .i64 b1, .int .i64 b2]).cell 0
    rwa [World.size_alloc] at this
  have c4 : ((w.alloc (.cells #[.int .i64 a1, .int .i64 a2] 30)).alloc (.cells #[.int .i64 b1, .int .i64 b2] 30)).cell? ⟨w.heap.size + 1, 1, none⟩ = some (.int .i64 b2) := by
    have := (Blk.new (w.alloc (.cells #[.int .i64 a1, .int .i64 a2] 30)) 30 #[.int .i64 b1, .int .i64 b2]).cell 1
    rwa [World.size_alloc] at this
  have HW : Hid (((w.alloc (.cells #[.int .i64 a1, .int .i64 a2] 30)).alloc (.cells #[.int .i64 b1, .int .i64 b2] 30)) = Sort.grow w #[.cells #[.int .i64 a1, .int .i64 a2] 30, .cells #[.int .i64 b1, .int .i64 b2] 30]) := by
    unfold Hid; rw [Sort.alloc_eq_grow, Sort.alloc_eq_grow, Sort.grow_grow]; rfl
  generalize ((w.alloc (.cells #[.int .i64 a1, .int .i64 a2] 30)).alloc (.cells #[.int .i64 b1, .int .i64 b2] 30)) = w2 at *
  generalize w.heap.size + 1 = bb at *
  generalize w.heap.size = ab at *
  go_still_tail 10, (by kernel_rfl)
  still_call (still_of (cmpInt_any _ _ _))
  repeat still_step
  still_call (still_of (cmpInt_any _ _ _))
  repeat still_step
  refine wpStill_nil ?_
  change wpList _ _ _ _ _ w2.drew
  generalize cmpI a1 b1 = r1 at *
  generalize cmpI a2 b2 = r2 at *
  clear c1 c2 c3 c4
  go_wp2_with fail
  refine (cmpOr_any _ r1 r2 _ (Blk.new w2.drew 3 #[.int .i64 r1, .int .i64 r2] |>.cell 0) (Blk.new w2.drew 3 #[.int .i64 r1, .int .i64 r2] |>.cell 1)).mono ?_
  rintro e w' ⟨rfl, rfl⟩
  generalize (if r1 = 0 then r2 else r1) = r at *
  go_wp2_with fail
  go_ret
  exact ⟨ret_int HR.out.symm, 1, #[.cells #[.int .i64 a1, .int .i64 a2] 30, .cells #[.int .i64 b1, .int .i64 b2] 30, .cells #[.int .i64 r1, .int .i64 r2] 3], by rw [HW.out, Sort.alloc_eq_grow, Sort.grow_grow]; rfl⟩

end Go.Proofs.YtpgcghnlepnoiaaGreat
