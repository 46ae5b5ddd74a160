/-
  The walk of the law TableColumns.
-/
import Derived.Test.YtpgdobomcdpdbaaTableFill
namespace Go.Proofs.Ytpgdobomcdpdbaa
open Go.RowKit

set_option maxRecDepth 100000 in
theorem tableColumns_any (kinds : Int) (A : Option Addr) (n c : Nat) (zs : List Int) (w : World) (h : ReadsI w w.heap.size A n zs) (hnc : n ≤ c) (hc : c ≤ maxLen) :
    Calls Try.prog 3 #[.int .i64 kinds, .slice A n c] w fun e w' => e = .returned (.bool true) ∧ Below w.heap.size w w' := by
  have H := Lib.hid h
  clear h
  have hm60 : min n 60 ≤ 60 := by omega
  have hneq : ∀ xs : List Int, xs.length = 11 → ∀ W, (binOp .neq 41 (.agg (ints xs)) (.agg (ints xs))).run Try.prog W = .ok (.bool false) W := fun xs hx W => by rw [neq_row xs xs hx hx W]; simp
  have HNEQ := Lib.hid hneq
  clear hneq
  go_enter Try.func3, Try.ntmps3
  go_wp2_with fail
  refine (tabled_any w).mono ?_
  rintro e w1 ⟨rfl, hb1⟩
  have HI1 : Hid (In (fun _ => False) w [] w1) := (In.nil w _).below hb1
  clear hb1
  go_wp2_with fail
  refine (filled_any kinds A n c zs w w1 H.out hnc hc HI1.out).mono ?_
  rintro e w2 ⟨p, v, rfl, hI⟩
  generalize min n 60 = m at *
  have HI := Lib.hid hI
  obtain ⟨A2, c2, rfl, hc1, hc2, _⟩ := hI.rowsAt
  have hlen := fillN_len (kinds % 256) zs m
  rw [hlen]
  have HL := Lib.hid hlen
  have hmi : (m : Int) ≤ 60 := by omega
  clear hI HI1 hlen
  go_wp2_with fail
  refine (thandles_in (In.swap HI.out) (by rw [HL.out]; omega)).mono ?_
  rintro e w3 ⟨hv, rfl, ho, hb3, hI3⟩
  obtain ⟨A3, c3, rfl, _, _, _⟩ := own_form ho
  have HI3 := Lib.hid hI3.swap
  rw [HL.out]
  have hmm : ((m : Int) != (m : Int)) = false := by simp
  clear ho hb3 hI3 HI
  go_wp2_with fail
  go_loopw [32] (fun i w' => ∃ k : Nat, k ≤ 8 ∧ i = .int .i64 k ∧ In (fun _ => False) w [RowsA (.slice A2 (fillN (kinds % 256) zs m).length c2) (fillN (kinds % 256) zs m), Tbl p (kinds % 256) (fillN (kinds % 256) zs m)] w') (fun i _ => 8 - (intOf i).toNat)
  case atStart => exact ⟨0, by omega, rfl, HI3.out⟩
  case round =>
    clear HI3
    obtain ⟨k, hk, rfl, hI⟩ := hrel
    have HI := Lib.hid hI
    clear hI
    by_cases hlt : k < 8
    · have hki : (k : Int) < 8 := by omega
      go_wp2_with fail
      refine (tcolumn_in (In.swap HI.out) (k : Int) (by rw [HL.out]; omega)).mono ?_
      rintro e w4 ⟨hE, hI4⟩
      have HI4 := Lib.hid hI4.swap
      unfold ColEnd at hE
      rcases of_cases (kinds % 256) (k : Int) with ⟨_, hn⟩ | ⟨k', hke, _, ⟨hkt, hR⟩ | ⟨hkt, hR⟩⟩
      · omega
      · obtain rfl : k = k' := by omega
        rw [hR] at hE
        obtain ⟨hb4, rfl⟩ := hE
        clear hR hb4 hI4 HI
        go_wp2_with fail
        refine (rest_any kinds 256 w4 (by omega) (by omega)).mono ?_
        rintro e w' ⟨rfl, rfl⟩
        go_wp2_with fail
        refine (hasKind_any (kinds % 256) k w4 hlt).mono ?_
        rintro e w' ⟨rfl, rfl⟩
        have hb : (m8 (kinds % 256)).testBit k = false := by
          unfold m8
          rw [Int.emod_emod_of_dvd _ (by exact Int.dvd_refl 256)]
          cases hb : ((kinds % 256).toNat).testBit k
          · rfl
          · exact absurd (List.mem_filter.2 ⟨by simpa using hlt, hb⟩) hkt
        rw [hb]
        clear hb hkt
        go_wp2_with fail
        go_roundw
        case rel => exact ⟨k + 1, by omega, by go_num, HI4.out⟩
        case measure => simp [intOf]; omega
      · obtain rfl : k = k' := by omega
        rw [hR] at hE
        obtain ⟨hb4, v4, rfl, ho4⟩ := hE
        have HI5 : Hid (In (fun _ => False) w [IntsA v4 (colOf (fillN (kinds % 256) zs m) k), RowsA (.slice A2 (fillN (kinds % 256) zs m).length c2) (fillN (kinds % 256) zs m), Tbl p (kinds % 256) (fillN (kinds % 256) zs m)] w4) := by
          have h0 : In (fun _ => False) w [RowsA (.slice A2 (fillN (kinds % 256) zs m).length c2) (fillN (kinds % 256) zs m), Tbl p (kinds % 256) (fillN (kinds % 256) zs m)] _ := HI.out
          exact h0.newInts ho4 hb4
        have hcl : (colOf (fillN (kinds % 256) zs m) k).length = m := by unfold colOf; rw [List.length_map, HL.out]
        have HCL := Lib.hid hcl
        obtain ⟨A5, c5, rfl, _⟩ := HI5.out.intsAt
        rw [hcl]
        clear hR hb4 ho4 hI4 HI HI4 hkt hcl
        go_wp2_with fail
        go_loopw [53] (fun i w' => ∃ j : Nat, j ≤ m ∧ i = .int .i64 j ∧ In (fun _ => False) w [IntsA (.slice A5 (colOf (fillN (kinds % 256) zs m) k).length c5) (colOf (fillN (kinds % 256) zs m) k), RowsA (.slice A2 (fillN (kinds % 256) zs m).length c2) (fillN (kinds % 256) zs m), Tbl p (kinds % 256) (fillN (kinds % 256) zs m)] w') (fun i _ => m - (intOf i).toNat)
        case atStart => exact ⟨0, by omega, rfl, HI5.out⟩
        case round =>
          clear HI5
          obtain ⟨j, hj, rfl, hI⟩ := hrel
          have HI := Lib.hid hI
          clear hI
          by_cases hltj : j < m
          · have hji : (j : Int) < m := by omega
            obtain ⟨A', c', e0, _, _, hrow⟩ := (In.swap HI.out).rowsAt
            injection e0 with e1 e2 e3
            subst e1; subst e3
            obtain ⟨g, rfl, hr⟩ := hrow j (by rw [HL.out]; exact hltj)
            rw [fillN_at hltj, rowE_eq (fillRow_len _ _ _)] at hr
            have hxl : (fillRow (kinds % 256) zs j).list.length = 11 := by simp [RowM.list, Beast.list, fillRow_len]
            have hRR : Hid (rowR (fillN (kinds % 256) zs m) (j : Int) = (fillRow (kinds % 256) zs j, 0)) := by
              unfold Hid rowR
              rw [if_pos (by simp [isRowB, HL.out]; omega), Int.toNat_natCast, fillN_at hltj]
            have hval : Hid ((fillRow (kinds % 256) zs j).list[k + 3]? = some ((colOf (fillN (kinds % 256) zs m) k).getD j 0)) := by
              unfold Hid colOf
              have h1 : (fillN (kinds % 256) zs m)[j]? = some (fillRow (kinds % 256) zs j) := by
                have := fillN_at (K := kinds % 256) (zs := zs) hltj
                simp only [List.getD, List.getElem?_eq_getElem (show j < (fillN (kinds % 256) zs m).length by rw [HL.out]; exact hltj), Option.getD_some] at this
                rw [List.getElem?_eq_getElem (by rw [HL.out]; exact hltj), this]
              simp only [List.getD, List.getElem?_map, h1, Option.map_some, Option.getD_some]
              have h2 := fillRow_len (kinds % 256) zs j
              show ([(fillRow (kinds % 256) zs j).h.1, (fillRow (kinds % 256) zs j).h.2] ++ (fillRow (kinds % 256) zs j).b.list)[k + 3]? = _
              simp [Beast.list, List.getElem?_eq_getElem (show k < (fillRow (kinds % 256) zs j).b.v.length by omega)]
            generalize hgx : (fillRow (kinds % 256) zs j).list = xs at *
            clear hrow e2
            have HRR2 : Hid ((rowR (fillN (kinds % 256) zs m) (j : Int)).1.list = (fillRow (kinds % 256) zs j).list ∧ (rowR (fillN (kinds % 256) zs m) (j : Int)).2 = 0) := ⟨by rw [hRR.out], by rw [hRR.out]⟩
            have HX : Hid ((fillRow (kinds % 256) zs j).list = xs) := hgx
            clear hRR hgx
            go_upto_region 16 with (fail)
            refine wp_abs (In (fun _ => False) w [Box wr.heap.size 41 (ints xs), IntsA (.slice A5 (colOf (fillN (kinds % 256) zs m) k).length c5) (colOf (fillN (kinds % 256) zs m) k), RowsA (.slice (some ⟨g, 0, none⟩) (fillN (kinds % 256) zs m).length c2) (fillN (kinds % 256) zs m), Tbl p (kinds % 256) (fillN (kinds % 256) zs m)])
              (HI.out.struct 41 zeroRow.list xs hxl) ?_
            generalize wr.heap.size = rb
            intro w5 hI5
            have HI5 := Lib.hid hI5.fourth
            clear HI hI5 hr
            go_wp2_with fail
            refine (trow_in HI5.out (j : Int) (by rw [HL.out]; omega)).mono ?_
            rintro e w6 ⟨rfl, hb6, hI6⟩
            rw [HRR2.out.1, HRR2.out.2, HX.out]
            have HI6 := Lib.hid hI6
            clear HI5 hb6 hI6
            go_upto_region 17 with (fail)
            refine wp_abs (In (fun _ => False) w [Box w6.heap.size 41 (ints xs), Tbl p (kinds % 256) (fillN (kinds % 256) zs m), Box rb 41 (ints xs), IntsA (.slice A5 (colOf (fillN (kinds % 256) zs m) k).length c5) (colOf (fillN (kinds % 256) zs m) k), RowsA (.slice (some ⟨g, 0, none⟩) (fillN (kinds % 256) zs m).length c2) (fillN (kinds % 256) zs m)])
              (HI6.out.struct 41 zeroRow.list xs hxl) ?_
            generalize w6.heap.size = xb
            intro w7 hI7
            have q1 : row? w7 xb 0 11 = some (ints xs) := hI7.blk.row_all hxl
            have q2 : row? w7 rb 0 11 = some (ints xs) := hI7.third.blk.row_all hxl
            obtain ⟨A6, c6, e4, hr6⟩ := hI7.fourth.intsAt
            injection e4 with e5 e6 e7
            subst e5; subst e7
            rw [HCL.out] at hr6
            obtain ⟨g2, o2, rfl, _, hkl2, hc2⟩ := hr6.at_ hltj
            have hgj : (colOf (fillN (kinds % 256) zs m) k)[j] = (colOf (fillN (kinds % 256) zs m) k).getD j 0 := by simp [List.getD, List.getElem?_eq_getElem hkl2]
            rw [hgj] at hc2
            have q3 : w7.cell? ⟨rb, 3 + k, none⟩ = some (.int .i64 ((colOf (fillN (kinds % 256) zs m) k).getD j 0)) := by
              rw [hI7.third.blk.cell, ints_get, Nat.add_comm, hval.out]; rfl
            have HI7 : Hid (In (fun _ => False) w [IntsA (.slice (some ⟨g2, o2, none⟩) (colOf (fillN (kinds % 256) zs m) k).length c5) (colOf (fillN (kinds % 256) zs m) k), RowsA (.slice (some ⟨g, 0, none⟩) (fillN (kinds % 256) zs m).length c2) (fillN (kinds % 256) zs m), Tbl p (kinds % 256) (fillN (kinds % 256) zs m)] w7) := by
              have h0 := hI7.drop
              have h1 := h0.swap.drop
              exact h1.third.third
            generalize (colOf (fillN (kinds % 256) zs m) k).getD j 0 = y at *
            have hy : (y != y) = false := by simp
            have hn := HNEQ.out xs hxl
            clear hgj e6 hI7 hr6
            go_quiet (fail)
            go_wp2_with fail
            go_roundw
            case rel => exact ⟨j + 1, by omega, by go_num, HI7.out.below ⟨rfl, rfl, rfl, Nat.le_refl _, fun _ _ => rfl⟩⟩
            case measure => simp [intOf]; omega
          · have hjm : j = m := by omega
            subst hjm
            go_wp2_with fail
            go_roundw
            case rel => exact ⟨k + 1, by omega, by go_num, HI.out.drop⟩
            case measure => simp [intOf]; omega
    · go_wp2_with fail
      go_ret
      exact ⟨rfl, HI.out.below0⟩

end Go.Proofs.Ytpgdobomcdpdbaa
