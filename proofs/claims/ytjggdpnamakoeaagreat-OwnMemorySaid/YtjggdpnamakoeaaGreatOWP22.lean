/-
  Several texts in one (merged by a program of mine): DiffMay.
-/
import Derived.Test.YtjggdpnamakoeaaGreatOWP21
import Derived.BigQuiet
import Derived.Deep.DeepCutAuto
set_option linter.unusedVariables false
set_option linter.unusedSimpArgs false
set_option linter.unusedSectionVars false
/-
  The contracts of diff.None, diff.within and diff.may.
-/
namespace Go.Proofs.YtjggdpnamakoeaaGreat
open Go.RowKit

theorem within_yes (n lo hi : Int) (h : lo ≤ n ∧ n ≤ hi) (w : World) : Calls Tryz.prog 102 #[.int .i64 n, .int .i64 lo, .int .i64 hi] w fun e w' => e = .returned (.bool true) ∧ w = w' := by
  obtain ⟨h1, h2⟩ := h
  go_enter Tryz.func102, Tryz.ntmps102
  go_wp2
  go_ret
  exact ⟨rfl, rfl⟩
theorem within_no (n lo hi : Int) (h : ¬ (lo ≤ n ∧ n ≤ hi)) (w : World) : Calls Tryz.prog 102 #[.int .i64 n, .int .i64 lo, .int .i64 hi] w fun e w' => e = .returned (.bool false) ∧ w = w' := by
  by_cases h1 : lo ≤ n
  · have h2 : Hid (hi < n) := by unfold Hid; omega
    clear h
    go_enter Tryz.func102, Tryz.ntmps102
    go_wp2
    go_ret
    exact ⟨ret_bool (decide_eq_false (by have := h2.out; omega)), rfl⟩
  · have h2 : n < lo := by omega
    clear h h1
    go_enter Tryz.func102, Tryz.ntmps102
    go_wp2
    go_ret
    exact ⟨rfl, rfl⟩
theorem cell_of_rowInts {w : World} {b o n : Nat} {x : Int} {xs : List Int} (h : row? w b o n = some (ints (x :: xs))) : w.cell? ⟨b, o, none⟩ = some (.int .i64 x) := by
  unfold row? at h
  split at h
  · rename_i cs t fr hg
    split at h
    · rename_i hle
      injection h with h
      have h2 : (cs.extract o (o + n))[0]? = some (.int .i64 x) := by rw [h]; rfl
      rw [cell_of_row w b o cs t fr hg]
      rw [Array.getElem?_extract] at h2
      split at h2
      · simpa using h2
      · cases h2
    · cases h
  · cases h
def prevAt (rs : List RowD) : Nat → Option Int
  | 0 => none
  | k + 1 => some (rs.getD k ((0, 0), [])).1.1
theorem mayFrom_step (rs : List RowD) (k : Nat) (h : k < rs.length) : mayFrom (prevAt rs k) (rs.drop k) = (rowMay rs[k] && (match prevAt rs k with | none => true | some p => decide (p < rs[k].1.1)) && mayFrom (prevAt rs (k + 1)) (rs.drop (k + 1))) := by
  rw [List.drop_eq_getElem_cons h]
  conv => lhs; unfold mayFrom
  have : prevAt rs (k + 1) = some rs[k].1.1 := by show some (rs.getD k _).1.1 = _; rw [List.getD_eq_getElem?_getD, List.getElem?_eq_getElem h]; rfl
  rw [this]
  cases prevAt rs k <;> rfl
theorem beastRow {r : RowD} (h : RowOk r) : r.2 = (toBeast r.2).list ∧ (toBeast r.2).v.length = 8 := by
  obtain ⟨a, b, c, d, e, f, g, i, j, hr⟩ := nine h
  rw [hr]; exact ⟨rfl, rfl⟩

set_option maxHeartbeats 4000000 in
set_option maxRecDepth 100000 in
theorem may_any (A : Option Addr) (c : Nat) (rs : List RowD) (w : World) (h : RowsIn w w.heap.size A rs) (hok : ∀ r ∈ rs, RowOk r) (hl : rs.length ≤ maxLen) :
    Calls Tryz.prog 70 #[.slice A rs.length c] w fun e w' => e = .returned (.bool (mayD rs)) ∧ Below w.heap.size w w' := by
  have H := Lib.hid h
  have HOK := Lib.hid hok
  have hl' : (rs.length : Int) ≤ 9223372036854775807 := by unfold maxLen at hl; omega
  clear h hok
  go_enter Tryz.func70, Tryz.ntmps70
  go_wp2_with fail
  go_loopw [7] (fun i w' => ∃ k : Nat, k ≤ rs.length ∧ i = .int .i64 k ∧ mayFrom none rs = mayFrom (prevAt rs k) (rs.drop k) ∧ Below w.heap.size w w') (fun i _ => rs.length - (intOf i).toNat)
  case atStart => exact ⟨0, by omega, rfl, rfl, Below.refl _ _⟩
  case round =>
    obtain ⟨k, hk, rfl, hm, hb⟩ := hrel
    have HM := Lib.hid hm
    have HBR := Lib.hid hb
    clear hm hb
    by_cases hlt : k < rs.length
    · have hki : (k : Int) < rs.length := by omega
      obtain ⟨b, o, hA, hbl, hrow⟩ := RowsIn.at_ (Chunks.below H.out HBR.out) hlt
      have hkc : ∀ j, k = j + 1 → row? wr b (o + j * 11) 11 = some (ints (rL (rs.getD j ((0, 0), [])))) := by
        rintro j rfl
        obtain ⟨b', o', e, hbl, hrow⟩ := RowsIn.at_ (Chunks.below H.out HBR.out) (k := j) (by omega)
        rw [hA] at e
        injection e with e
        injection e with e1 e2
        subst e1; subst e2
        rw [List.getD_eq_getElem?_getD, List.getElem?_eq_getElem (show j < rs.length by omega)]
        exact hrow
      have HKC := Lib.hid hkc
      clear hkc
      subst hA
      have HST := Lib.hid (mayFrom_step rs k hlt)
      have HRO := Lib.hid (HOK.out _ (List.getElem_mem hlt))
      generalize hrk : rs[k] = r at *
      clear hrk
      have hrl := rL_len r
      have HRE := Lib.hid (rL_eq HRO.out)
      obtain ⟨HBE, HBL⟩ := beastRow HRO.out
      obtain ⟨⟨s, g⟩, bb⟩ := r
      simp only at HBE HBL
      have HCB : Hid (∀ W, Calls Tryz.prog 46 #[.agg (ints bb)] W fun e w' => e = .returned (.int .i64 (beastErr (toBeast bb))) ∧ Below W.heap.size W w') := fun W => by
        rw [HBE]; exact checkBeast_any _ HBL W
      have HR : Hid (rowMay ((s, g), bb) = (decide (0 ≤ s) && decide (s ≤ 59) && decide (0 ≤ g) && decide (g ≤ 1000000) && decide (beastErr (toBeast bb) = 0))) := rfl
      have HB9 : Hid (bb.length = 9) := HRO.out
      clear HBE HBL HRO
      go_upto_region 4 with (fail)
      refine wp_abs (fun w' => Blk w' wr.heap.size 49 (ints (rL ((s, g), bb))) ∧ Below wr.heap.size wr w') ⟨blk_new_put wr 49 [0, 0, 0, 0, 0, 0, 0, 0, 0, 0, 0] _ hrl, below_new_put wr 49 [0, 0, 0, 0, 0, 0, 0, 0, 0, 0, 0] _⟩ ?_
      rintro w2 ⟨hx2, hb2⟩
      have HB2 := Lib.hid (HBR.out.trans (hb2.mono HBR.out.size))
      have c1 : ∀ n : After w2, n.w.cell? ⟨wr.heap.size, 0, none⟩ = some (.int .i64 s) := fun n => (hx2.after n.below).cell 0
      have c2 : ∀ n : After w2, n.w.cell? ⟨wr.heap.size, 1, none⟩ = some (.int .i64 g) := fun n => (hx2.after n.below).cell 1
      have c3 : ∀ n : After w2, row? n.w wr.heap.size 2 9 = some (ints bb) := fun n => by
        have := (hx2.after n.below).row_ints 2 9 (by rw [hrl]; omega)
        rw [this, HRE.out]
        simp only [List.drop_succ_cons, List.drop_zero]
        rw [List.take_of_length_le (by rw [HB9.out]; omega)]
      have HC4 : Hid (∀ j, k = j + 1 → ∀ n : After w2, n.w.cell? ⟨b, o + j * 11, none⟩ = some (.int .i64 (rs.getD j ((0, 0), [])).1.1)) := by
        intro j hj n
        have hbb := hb2.trans (n.below.mono hb2.size)
        have h1 := (row_below hbb (by have := HBR.out.size; omega) _ _).trans (HKC.out j hj)
        unfold rL at h1
        exact cell_of_rowInts h1
      generalize wr.heap.size = xb at *
      clear hx2 hrow HKC hrl HRE hb2 HBR
      by_cases h1 : 0 ≤ s ∧ s ≤ 59
      rotate_left
      · have HW1 := Lib.hid (within_no s 0 59 h1)
        have HF : Hid (mayD rs = false) := by
          unfold Hid mayD
          rw [HM.out, HST.out, HR.out]
          by_cases h2 : 0 ≤ s
          · have h3 : ¬ s ≤ 59 := fun h => h1 ⟨h2, h⟩
            simp [h3]
          · simp [h2]
        clear h1
        refine wp_region_after (by kernel_rfl) (by kernel_rfl) ?_
        repeat (go_big_quiet_step (first
          | (go_at_call 102; with_reducible exact quiet_same (HW1.out _))))
        refine wpQuiet_nil ?_
        rintro _ ⟨n, rfl⟩
        have HBn : Hid (Below w.heap.size w n.w) := HB2.out.trans (n.below.mono HB2.out.size)
        go_wp2_with fail
        go_ret
        exact ⟨ret_bool HF.out.symm, HBn.out⟩
      by_cases h2 : 0 ≤ g ∧ g ≤ 1000000
      rotate_left
      · have HW1 := Lib.hid (within_yes s 0 59 h1)
        have HW2 := Lib.hid (within_no g 0 1000000 h2)
        have HF : Hid (mayD rs = false) := by
          unfold Hid mayD
          rw [HM.out, HST.out, HR.out]
          by_cases h3 : 0 ≤ g
          · have h4 : ¬ g ≤ 1000000 := fun h => h2 ⟨h3, h⟩
            simp [h4]
          · simp [h3]
        clear h1 h2
        refine wp_region_after (by kernel_rfl) (by kernel_rfl) ?_
        repeat (go_big_quiet_step (first
          | (go_at_call 102; with_reducible exact quiet_same (HW1.out _))
          | (go_at_call 102; with_reducible exact quiet_same (HW2.out _))))
        refine wpQuiet_nil ?_
        rintro _ ⟨n, rfl⟩
        have HBn : Hid (Below w.heap.size w n.w) := HB2.out.trans (n.below.mono HB2.out.size)
        go_wp2_with fail
        go_ret
        exact ⟨ret_bool HF.out.symm, HBn.out⟩
      have HW1 := Lib.hid (within_yes s 0 59 h1)
      have HW2 := Lib.hid (within_yes g 0 1000000 h2)
      have HR2 : Hid (rowMay ((s, g), bb) = decide (beastErr (toBeast bb) = 0)) := by
        unfold Hid
        rw [HR.out]
        simp [h1, h2]
      clear h1 h2 HR
      generalize beastErr (toBeast bb) = E at *
      by_cases he : E = 0
      rotate_left
      · have h3 : (E != 0) = true := by simpa using he
        have HF : Hid (mayD rs = false) := by
          unfold Hid mayD
          rw [HM.out, HST.out, HR2.out]
          simp [he]
        clear he
        refine wp_region_after (by kernel_rfl) (by kernel_rfl) ?_
        repeat (go_big_quiet_step (first
          | (go_at_call 102; with_reducible exact quiet_same (HW1.out _))
          | (go_at_call 102; with_reducible exact quiet_same (HW2.out _))
          | (go_at_call 46; with_reducible exact quiet_after (HCB.out _))))
        refine wpQuiet_nil ?_
        rintro _ ⟨n, rfl⟩
        have HBn : Hid (Below w.heap.size w n.w) := HB2.out.trans (n.below.mono HB2.out.size)
        go_wp2_with fail
        go_ret
        exact ⟨ret_bool HF.out.symm, HBn.out⟩
      subst he
      cases k with
      | zero =>
        have HN : Hid (mayFrom none rs = mayFrom (prevAt rs 1) (rs.drop 1)) := by
          unfold Hid
          rw [HM.out, HST.out, HR2.out]
          simp [prevAt]
        clear HM HST
        refine wp_region_after (by kernel_rfl) (by kernel_rfl) ?_
        repeat (go_big_quiet_step (first
          | (go_at_call 102; with_reducible exact quiet_same (HW1.out _))
          | (go_at_call 102; with_reducible exact quiet_same (HW2.out _))
          | (go_at_call 46; with_reducible exact quiet_after (HCB.out _))))
        refine wpQuiet_nil ?_
        rintro _ ⟨n, rfl⟩
        have HBn : Hid (Below w.heap.size w n.w) := HB2.out.trans (n.below.mono HB2.out.size)
        go_wp2_with fail
        go_roundw
        case rel => exact ⟨1, by omega, by go_num, HN.out, HBn.out⟩
        case measure => simp [intOf]; omega
      | succ j =>
        have c4 := HC4.out j rfl
        have hsub : IntKind.i64.wrap ((j : Int) + 1 - 1) = j := by rw [show (j : Int) + 1 - 1 = j from by omega]; exact IntWalk.i64_in _ (by omega)
        have HPV : Hid (prevAt rs (j + 1) = some (rs.getD j ((0, 0), [])).1.1) := rfl
        generalize (rs.getD j ((0, 0), [])).1.1 = pv at *
        have hj0 : (0 : Int) < (j : Int) + 1 := by omega
        have hjl : (j : Int) < rs.length := by omega
        by_cases h3 : s ≤ pv
        · have HF : Hid (mayD rs = false) := by
            unfold Hid mayD
            rw [HM.out, HST.out, HR2.out, HPV.out]
            have : ¬ pv < s := by omega
            simp [this]
          refine wp_region_after (by kernel_rfl) (by kernel_rfl) ?_
          repeat (go_big_quiet_step (first
            | (go_at_call 102; with_reducible exact quiet_same (HW1.out _))
            | (go_at_call 102; with_reducible exact quiet_same (HW2.out _))
            | (go_at_call 46; with_reducible exact quiet_after (HCB.out _))))
          refine wpQuiet_nil ?_
          rintro _ ⟨n, rfl⟩
          have HBn : Hid (Below w.heap.size w n.w) := HB2.out.trans (n.below.mono HB2.out.size)
          go_wp2_with fail
          go_ret
          exact ⟨ret_bool HF.out.symm, HBn.out⟩
        · have HN : Hid (mayFrom none rs = mayFrom (prevAt rs (j + 1 + 1)) (rs.drop (j + 1 + 1))) := by
            unfold Hid
            rw [HM.out, HST.out, HR2.out, HPV.out]
            have : pv < s := by omega
            simp [this]
          have h4 : pv < s := by omega
          clear HM HST h3
          refine wp_region_after (by kernel_rfl) (by kernel_rfl) ?_
          repeat (go_big_quiet_step (first
            | (go_at_call 102; with_reducible exact quiet_same (HW1.out _))
            | (go_at_call 102; with_reducible exact quiet_same (HW2.out _))
            | (go_at_call 46; with_reducible exact quiet_after (HCB.out _))))
          refine wpQuiet_nil ?_
          rintro _ ⟨n, rfl⟩
          have HBn : Hid (Below w.heap.size w n.w) := HB2.out.trans (n.below.mono HB2.out.size)
          go_wp2_with fail
          go_roundw
          case rel => exact ⟨j + 1 + 1, by omega, by go_num, HN.out, HBn.out⟩
          case measure => simp [intOf]; omega
    · have hki : (rs.length : Int) ≤ k := by omega
      have HF : Hid (mayD rs = decide (rs.length ≤ 60)) := by
        unfold Hid mayD
        rw [HM.out, List.drop_eq_nil_of_le (by omega)]
        simp [mayFrom]
      go_wp2_with fail
      go_ret
      refine ⟨ret_bool ?_, HBR.out⟩
      rw [HF.out, Bool.eq_iff_iff, decide_eq_true_eq, decide_eq_true_eq]
      omega

end Go.Proofs.YtjggdpnamakoeaaGreat
