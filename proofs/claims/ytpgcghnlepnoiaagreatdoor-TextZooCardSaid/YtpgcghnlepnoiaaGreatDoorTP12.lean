/-
  Several texts in one (merged by a program of mine): EqHandle, EqRow, EqBond.
-/
import Derived.Test.YtpgcghnlepnoiaaGreatDoorTP11
import Derived.StillTailTactics
import Derived.BigQuiet
import Derived.Deep.DeepCutAuto
set_option linter.unusedVariables false
set_option linter.unusedSimpArgs false
set_option linter.unusedSectionVars false
/-
  The contract of vivariumref.Eq at api.Handle (printed by wip/gen_eq.py).
-/
namespace Go.Proofs.YtpgcghnlepnoiaaGreatDoor
open Go.RowKit


end Go.Proofs.YtpgcghnlepnoiaaGreatDoor

/-
  The contract of vivariumref.Eq at api.Row (printed by wip/gen_eq.py).
-/
namespace Go.Proofs.YtpgcghnlepnoiaaGreatDoor
open Go.RowKit

theorem eqRow_any (A A' : Option Addr) (c c' : Nat) (xs ys : List (List Int)) (w : World) (h : Chunks w w.heap.size 11 A xs) (h' : Chunks w w.heap.size 11 A' ys) (hx : xs.length ≤ maxLen) (hy : ys.length ≤ maxLen) :
    Calls Tryz.prog 28 #[.slice A xs.length c, .slice A' ys.length c'] w fun e w' => e = .returned (.bool (sameRows xs ys)) ∧ Below w.heap.size w w' := by
  have H := Lib.hid h
  have H' := Lib.hid h'
  have hx' : (xs.length : Int) ≤ 9223372036854775807 := by unfold maxLen at hx; omega
  have hy' : (ys.length : Int) ≤ 9223372036854775807 := by unfold maxLen at hy; omega
  have hsx : Hid (∀ r ∈ xs, r.length = 11) := h.1
  have hsy : Hid (∀ r ∈ ys, r.length = 11) := h'.1
  clear h h'
  go_enter Tryz.func28, Tryz.ntmps28
  by_cases hl : xs.length = ys.length
  rotate_left
  · have h1 : ((xs.length : Int) != (ys.length : Int)) = true := by simp; omega
    have HD : Hid (sameRows xs ys = false) := by simp only [Hid, sameRows, decide_eq_false_iff_not]; rintro rfl; exact hl rfl
    go_wp2_with fail
    go_ret
    exact ⟨ret_bool HD.out.symm, Below.refl _ _⟩
  have h1 : ((xs.length : Int) != (ys.length : Int)) = false := by simp; omega
  go_wp2_with fail
  go_loopw [14] (fun i w' => ∃ k : Nat, k ≤ xs.length ∧ i = .int .i64 k ∧ (∀ j, j < k → xs[j]? = ys[j]?) ∧ Below w.heap.size w w') (fun i _ => xs.length - (intOf i).toNat)
  case atStart => exact ⟨0, by omega, rfl, fun j hj => by omega, Below.refl _ _⟩
  case round =>
    obtain ⟨k, hk, rfl, hbef, hb⟩ := hrel
    have HBEF := Lib.hid hbef
    have HBR := Lib.hid hb
    clear hbef hb
    by_cases hlt : k < xs.length
    · have hki : (k : Int) < xs.length := by omega
      have hki' : (k : Int) < ys.length := by omega
      obtain ⟨b, o, rfl, hbl, hrow⟩ := (H.out.below HBR.out).at_ hlt
      obtain ⟨b', o', rfl, hbl', hrow'⟩ := (H'.out.below HBR.out).at_ (k := k) (by omega)
      have hex : Hid (xs[k]? = ys[k]? ↔ xs[k] = ys[k]'(by omega)) := by
        rw [List.getElem?_eq_getElem hlt, List.getElem?_eq_getElem (show k < ys.length by omega)]
        exact ⟨fun h => Option.some.inj h, fun h => by rw [h]⟩
      have hrx := hsx.out _ (List.getElem_mem hlt)
      have hry := hsy.out _ (List.getElem_mem (show k < ys.length by omega))
      generalize xs[k] = x at *
      generalize ys[k]'(by omega) = y at *
      go_upto_region 6 with (fail)
      refine wp_abs (fun w' => Blk w' wr.heap.size 51 (ints x) ∧ Below wr.heap.size wr w') ⟨blk_new_put wr 51 [0, 0, 0, 0, 0, 0, 0, 0, 0, 0, 0] _ hrx, below_new_put wr 51 [0, 0, 0, 0, 0, 0, 0, 0, 0, 0, 0] _⟩ ?_
      rintro w2 ⟨hx2, hb2⟩
      have HB2 := Lib.hid (HBR.out.trans (hb2.mono HBR.out.size))
      have c1 : ∀ n : After w2, row? n.w wr.heap.size 0 11 = some (ints x) := fun n => (hx2.after n.below).row_all hrx
      have c2 : ∀ n : After w2, row? n.w b' (o' + k * 11) 11 = some (ints y) := fun n => (row_below n.below (by have := HBR.out.size; have := hb2.size; omega) _ _).trans ((row_below hb2 (by have := HBR.out.size; omega) _ _).trans hrow')
      have hn : ∀ W, (binOp .neq 51 (.agg (ints x)) (.agg (ints y))).run Tryz.prog W = .ok (.bool (!decide (x = y))) W := neq_row x y hrx hry
      clear hx2 hb2 hrow hrow'
      by_cases he : x = y
      · have hd : (decide (x = y)) = true := by simpa using he
        rw [hd] at hn
        have HE : Hid (xs[k]? = ys[k]?) := hex.out.2 he
        clear he hex hd
        refine wp_region_after (by kernel_rfl) (by kernel_rfl) ?_
        repeat (go_big_quiet_step (fail))
        refine wpQuiet_nil ?_
        rintro _ ⟨n, rfl⟩
        go_wp2_with fail
        go_roundw
        case rel =>
          refine ⟨k + 1, by omega, by go_num, fun j hj => ?_, HB2.out.trans (n.below.mono HB2.out.size)⟩
          by_cases hjk : j = k
          · rw [hjk]; exact HE.out
          · exact HBEF.out j (by omega)
        case measure => simp [intOf]; omega
      · have hd : (decide (x = y)) = false := by simpa using he
        rw [hd] at hn
        have HD : Hid (sameRows xs ys = false) := by
          simp only [Hid, sameRows, decide_eq_false_iff_not]
          intro e
          exact he (hex.out.1 (by rw [e]))
        clear he hex hd
        refine wp_region_after (by kernel_rfl) (by kernel_rfl) ?_
        repeat (go_big_quiet_step (fail))
        refine wpQuiet_nil ?_
        rintro _ ⟨n, rfl⟩
        go_wp2_with fail
        go_ret
        exact ⟨ret_bool HD.out.symm, HB2.out.trans (n.below.mono HB2.out.size)⟩
    · have HD : Hid (sameRows xs ys = true) := by
        simp only [Hid, sameRows, decide_eq_true_eq]
        apply List.ext_getElem?
        intro j
        by_cases hj : j < k
        · exact HBEF.out j hj
        · rw [List.getElem?_eq_none (by omega), List.getElem?_eq_none (by omega)]
      go_wp2_with fail
      go_ret
      exact ⟨ret_bool HD.out.symm, HBR.out⟩

end Go.Proofs.YtpgcghnlepnoiaaGreatDoor

/-
  The contract of vivariumref.Eq at api.Bond (printed by wip/gen_eq.py).
-/
namespace Go.Proofs.YtpgcghnlepnoiaaGreatDoor
open Go.RowKit

theorem eqBond_any (A A' : Option Addr) (c c' : Nat) (xs ys : List (List Int)) (w : World) (h : Chunks w w.heap.size 4 A xs) (h' : Chunks w w.heap.size 4 A' ys) (hx : xs.length ≤ maxLen) (hy : ys.length ≤ maxLen) :
    Calls Tryz.prog 29 #[.slice A xs.length c, .slice A' ys.length c'] w fun e w' => e = .returned (.bool (sameRows xs ys)) ∧ Below w.heap.size w w' := by
  have H := Lib.hid h
  have H' := Lib.hid h'
  have hx' : (xs.length : Int) ≤ 9223372036854775807 := by unfold maxLen at hx; omega
  have hy' : (ys.length : Int) ≤ 9223372036854775807 := by unfold maxLen at hy; omega
  have hsx : Hid (∀ r ∈ xs, r.length = 4) := h.1
  have hsy : Hid (∀ r ∈ ys, r.length = 4) := h'.1
  clear h h'
  go_enter Tryz.func29, Tryz.ntmps29
  by_cases hl : xs.length = ys.length
  rotate_left
  · have h1 : ((xs.length : Int) != (ys.length : Int)) = true := by simp; omega
    have HD : Hid (sameRows xs ys = false) := by simp only [Hid, sameRows, decide_eq_false_iff_not]; rintro rfl; exact hl rfl
    go_wp2_with fail
    go_ret
    exact ⟨ret_bool HD.out.symm, Below.refl _ _⟩
  have h1 : ((xs.length : Int) != (ys.length : Int)) = false := by simp; omega
  go_wp2_with fail
  go_loopw [14] (fun i w' => ∃ k : Nat, k ≤ xs.length ∧ i = .int .i64 k ∧ (∀ j, j < k → xs[j]? = ys[j]?) ∧ Below w.heap.size w w') (fun i _ => xs.length - (intOf i).toNat)
  case atStart => exact ⟨0, by omega, rfl, fun j hj => by omega, Below.refl _ _⟩
  case round =>
    obtain ⟨k, hk, rfl, hbef, hb⟩ := hrel
    have HBEF := Lib.hid hbef
    have HBR := Lib.hid hb
    clear hbef hb
    by_cases hlt : k < xs.length
    · have hki : (k : Int) < xs.length := by omega
      have hki' : (k : Int) < ys.length := by omega
      obtain ⟨b, o, rfl, hbl, hrow⟩ := (H.out.below HBR.out).at_ hlt
      obtain ⟨b', o', rfl, hbl', hrow'⟩ := (H'.out.below HBR.out).at_ (k := k) (by omega)
      have hex : Hid (xs[k]? = ys[k]? ↔ xs[k] = ys[k]'(by omega)) := by
        rw [List.getElem?_eq_getElem hlt, List.getElem?_eq_getElem (show k < ys.length by omega)]
        exact ⟨fun h => Option.some.inj h, fun h => by rw [h]⟩
      have hrx := hsx.out _ (List.getElem_mem hlt)
      have hry := hsy.out _ (List.getElem_mem (show k < ys.length by omega))
      generalize xs[k] = x at *
      generalize ys[k]'(by omega) = y at *
      go_upto_region 6 with (fail)
      refine wp_abs (fun w' => Blk w' wr.heap.size 56 (ints x) ∧ Below wr.heap.size wr w') ⟨blk_new_put wr 56 [0, 0, 0, 0] _ hrx, below_new_put wr 56 [0, 0, 0, 0] _⟩ ?_
      rintro w2 ⟨hx2, hb2⟩
      have HB2 := Lib.hid (HBR.out.trans (hb2.mono HBR.out.size))
      have c1 : ∀ n : After w2, row? n.w wr.heap.size 0 4 = some (ints x) := fun n => (hx2.after n.below).row_all hrx
      have c2 : ∀ n : After w2, row? n.w b' (o' + k * 4) 4 = some (ints y) := fun n => (row_below n.below (by have := HBR.out.size; have := hb2.size; omega) _ _).trans ((row_below hb2 (by have := HBR.out.size; omega) _ _).trans hrow')
      have hn : ∀ W, (binOp .neq 56 (.agg (ints x)) (.agg (ints y))).run Tryz.prog W = .ok (.bool (!decide (x = y))) W := neq_bond x y hrx hry
      clear hx2 hb2 hrow hrow'
      by_cases he : x = y
      · have hd : (decide (x = y)) = true := by simpa using he
        rw [hd] at hn
        have HE : Hid (xs[k]? = ys[k]?) := hex.out.2 he
        clear he hex hd
        refine wp_region_after (by kernel_rfl) (by kernel_rfl) ?_
        repeat (go_big_quiet_step (fail))
        refine wpQuiet_nil ?_
        rintro _ ⟨n, rfl⟩
        go_wp2_with fail
        go_roundw
        case rel =>
          refine ⟨k + 1, by omega, by go_num, fun j hj => ?_, HB2.out.trans (n.below.mono HB2.out.size)⟩
          by_cases hjk : j = k
          · rw [hjk]; exact HE.out
          · exact HBEF.out j (by omega)
        case measure => simp [intOf]; omega
      · have hd : (decide (x = y)) = false := by simpa using he
        rw [hd] at hn
        have HD : Hid (sameRows xs ys = false) := by
          simp only [Hid, sameRows, decide_eq_false_iff_not]
          intro e
          exact he (hex.out.1 (by rw [e]))
        clear he hex hd
        refine wp_region_after (by kernel_rfl) (by kernel_rfl) ?_
        repeat (go_big_quiet_step (fail))
        refine wpQuiet_nil ?_
        rintro _ ⟨n, rfl⟩
        go_wp2_with fail
        go_ret
        exact ⟨ret_bool HD.out.symm, HB2.out.trans (n.below.mono HB2.out.size)⟩
    · have HD : Hid (sameRows xs ys = true) := by
        simp only [Hid, sameRows, decide_eq_true_eq]
        apply List.ext_getElem?
        intro j
        by_cases hj : j < k
        · exact HBEF.out j hj
        · rw [List.getElem?_eq_none (by omega), List.getElem?_eq_none (by omega)]
      go_wp2_with fail
      go_ret
      exact ⟨ret_bool HD.out.symm, HBR.out⟩

end Go.Proofs.YtpgcghnlepnoiaaGreatDoor
