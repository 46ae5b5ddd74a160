/-
  The closed fact 'tabled', and 'filled'.
-/
import Derived.Test.YtpgdobomcdpdbaaTableIn
namespace Go.Proofs.Ytpgdobomcdpdbaa
open Go.RowKit

def tb0 (i : Int) : Beast := ⟨1, [i, 0, 0, 0, 0, 0, 0, 0]⟩
def tabN (j : Nat) : List RowM := (List.range j).map fun i : Nat => ⟨((i : Int), 0), tb0 i⟩
theorem tabN_succ (j : Nat) : tabN (j + 1) = tabN j ++ [⟨((j : Int), 0), tb0 j⟩] := by unfold tabN; rw [List.range_succ, List.map_append]; rfl
theorem tb0_ok : ∀ j : Nat, j < 3 → beastErr (tb0 j) = 0 := by
  intro j hj
  match j, hj with
  | 0, _ | 1, _ | 2, _ => decide

set_option maxRecDepth 100000 in
theorem tabled_any (w : World) : Calls Try.prog 15 #[] w fun e w' => e = .returned (.bool true) ∧ Below w.heap.size w w' := by
  go_enter Try.func15, Try.ntmps15
  go_wp2_with fail
  refine (tnew_in 1 (by omega) (In.nil w (fun _ => False))).mono ?_
  rintro e w1 ⟨p, rfl, hI⟩
  have HI := Lib.hid hI
  clear hI
  go_wp2_with fail
  go_loopw [18] (fun i w' => ∃ j : Nat, j ≤ 3 ∧ i = .int .i64 j ∧ In (fun _ => False) w [Tbl p 1 (tabN j)] w') (fun i _ => 3 - (intOf i).toNat)
  case atStart => exact ⟨0, by omega, rfl, HI.out⟩
  case round =>
    clear HI
    obtain ⟨j, hj, rfl, hI⟩ := hrel
    have HI := Lib.hid hI
    clear hI
    by_cases hlt : j < 3
    · have hji : (j : Int) < 3 := by omega
      have HR : Hid (addR 1 (tabN j) ⟨((j : Int), 0), tb0 j⟩ = (tabN (j + 1), (((tabN j).length : Nat) : Int), 0)) := by
        unfold Hid addR
        rw [if_neg (by simp only; rw [tb0_ok j hlt]; simp), if_neg (by simp [tb0]), tabN_succ]
      have hl : (tabN j).length ≤ 10000 := by unfold tabN; rw [List.length_map, List.length_range]; omega
      go_wp2_with fail
      refine (tadd_in HI.out (j : Int) 0 (tb0 j) rfl hl).mono ?_
      rintro e w2 ⟨rfl, hI2⟩
      rw [HR.out] at hI2
      have HI2 := Lib.hid hI2
      clear hI2
      go_wp2_with fail
      go_roundw
      case rel => exact ⟨j + 1, by omega, by go_num, HI2.out⟩
      case measure => simp [intOf]; omega
    · have : j = 3 := by omega
      subst this
      go_wp2_with fail
      refine (tremove_in HI.out 0 (by decide)).mono ?_
      rintro e w2 ⟨rfl, hI2⟩
      rw [show removeR (tabN 3) 0 = ([⟨(2, 0), tb0 2⟩, ⟨(1, 0), tb0 1⟩], ⟨(0, 0), tb0 0⟩, 0) from rfl] at hI2 ⊢
      have HI2 := Lib.hid hI2
      clear hI2
      go_upto_region 10 with (fail)
      refine wp_abs (In (fun _ => False) w [Box w2.heap.size 41 (ints (RowM.list ⟨(0, 0), tb0 0⟩)), Tbl p 1 [⟨(2, 0), tb0 2⟩, ⟨(1, 0), tb0 1⟩]]) (HI2.out.struct 41 zeroRow.list (RowM.list ⟨(0, 0), tb0 0⟩) rfl) ?_
      generalize w2.heap.size = rb
      intro w3 hI3
      have HI3 := Lib.hid hI3.swap
      clear HI2 hI3
      go_wp2_with fail
      refine (tcolumn_in HI3.out 0 (by decide)).mono ?_
      rintro e w4 ⟨hE, hI4⟩
      have hR : ofR 1 0 = (some 0, 0) := by decide
      unfold ColEnd at hE
      rw [hR] at hE
      obtain ⟨hb4, v, rfl, ho⟩ := hE
      rw [show colOf [⟨(2, 0), tb0 2⟩, ⟨(1, 0), tb0 1⟩] 0 = [2, 1] from rfl] at ho
      obtain ⟨A, c, rfl, hr⟩ := ho.form
      have c1 : w4.cell? ⟨rb, 0, none⟩ = some (.int .i64 0) := hI4.swap.blk.cell 0
      have HR := Lib.hid hr
      have HB := Lib.hid hI4.below0
      clear hb4 ho hr hI4 hR
      go_wp2_with fail
      refine (eqI_any A _ _ 2 c 2 [2, 1] [2, 1] _ _ _ (HR.out.below ((Below.refl _ _).alloc (Nat.le_refl _) _)) (ReadsI.lit w4 [2, 1]) (by decide) (by decide)).mono ?_
      rintro e w' ⟨rfl, rfl⟩
      rw [show decide (([2, 1] : List Int) = [2, 1]) = true from by decide]
      go_wp2_with fail
      go_ret
      exact ⟨rfl, HB.out.alloc HB.out.size _⟩

end Go.Proofs.Ytpgdobomcdpdbaa
