/-
  Several texts in one (merged by a program of mine): FamCmp.
-/
import Derived.Test.YtjggdpnamakoeaaWP27
import Derived.Sort.Grow
/-
  The order of handles: cmp.Compare, cmp.Or, family.Compare.
-/
namespace Go.Proofs.Ytjggdpnamakoeaa
open Go.RowKit

def cmpI (x y : Int) : Int := if x < y then -1 else if y < x then 1 else 0
def cmpH (a b : Hd) : Int := if cmpI a.1 b.1 = 0 then cmpI a.2 b.2 else cmpI a.1 b.1
theorem cmpI_neg (x y : Int) : cmpI x y < 0 ↔ x < y := by
  unfold cmpI
  split
  · simp_all
  · split <;> simp_all
theorem cmpI_zero (x y : Int) : cmpI x y = 0 ↔ x = y := by
  unfold cmpI
  split
  · simp; omega
  · split
    · simp; omega
    · simp; omega
theorem cmpH_neg (a b : Hd) : decide (cmpH a b < 0) = hLt a b := by
  unfold cmpH hLt
  rw [Bool.eq_iff_iff]
  simp only [decide_eq_true_eq, Bool.or_eq_true, Bool.and_eq_true]
  split
  · rename_i h
    have := (cmpI_zero _ _).1 h
    rw [cmpI_neg]; omega
  · rename_i h
    rw [cmpI_neg]
    have : a.1 ≠ b.1 := fun e => h ((cmpI_zero _ _).2 e)
    omega

theorem isNaN_any (x : Int) (w : World) : Calls Try.prog 57 #[.int .i64 x] w fun e w' => e = .returned (.bool false) ∧ w = w' := by
  go_enter Try.func57, Try.ntmps57
  go_wp2_with fail
  go_ret
  exact ⟨ret_bool (by simp), rfl⟩
theorem cmpInt_any (x y : Int) (w : World) : Calls Try.prog 40 #[.int .i64 x, .int .i64 y] w fun e w' => e = .returned (.int .i64 (cmpI x y)) ∧ w = w' := by
  have HX : Hid (x < y → cmpI x y = -1) := fun h => by unfold cmpI; rw [if_pos h]
  have HY : Hid (¬ x < y → y < x → cmpI x y = 1) := fun h h' => by unfold cmpI; rw [if_neg h, if_pos h']
  have HZ : Hid (¬ x < y → ¬ y < x → cmpI x y = 0) := fun h h' => by unfold cmpI; rw [if_neg h, if_neg h']
  go_enter Try.func40, Try.ntmps40
  go_wp2_with fail
  refine (isNaN_any x w).mono ?_
  rintro e w' ⟨rfl, rfl⟩
  go_wp2_with fail
  refine (isNaN_any y w).mono ?_
  rintro e w' ⟨rfl, rfl⟩
  by_cases h1 : x < y
  · go_wp2_with fail
    go_ret
    exact ⟨ret_int (HX.out h1).symm, rfl⟩
  · by_cases h2 : y < x
    · go_wp2_with fail
      go_ret
      exact ⟨ret_int (HY.out h1 h2).symm, rfl⟩
    · go_wp2_with fail
      go_ret
      exact ⟨ret_int (HZ.out h1 h2).symm, rfl⟩


end Go.Proofs.Ytjggdpnamakoeaa
