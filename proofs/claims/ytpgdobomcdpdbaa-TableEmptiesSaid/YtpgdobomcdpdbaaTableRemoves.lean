/-
  The walk of the law TableRemoves.
-/
import Derived.Test.YtpgdobomcdpdbaaTableFill
import Derived.Deep.RegionWith
import Derived.Deep.DrawnRows
namespace Go.Proofs.Ytpgdobomcdpdbaa
open Go.RowKit
attribute [local go_sem ↓] Go.wp_at_zero Go.wp_at_succ

theorem removeR_at {rows : List RowM} {i : Nat} (h : i < rows.length) : removeR rows (i : Int) = (cutAt zeroRow rows i, rows.getD i zeroRow, 0) := by
  unfold removeR
  rw [if_pos (by simp [isRowB]; omega), Int.toNat_natCast]
theorem rowR_at {rows : List RowM} {i : Nat} (h : i < rows.length) : rowR rows (i : Int) = (rows.getD i zeroRow, 0) := by
  unfold rowR
  rw [if_pos (by simp [isRowB]; omega), Int.toNat_natCast]
theorem fillN_mem {K : Int} {zs : List Int} {n : Nat} {r : RowM} (h : r ∈ fillN K zs n) : r.b.v.length = 8 := by
  unfold fillN at h
  obtain ⟨i, _, rfl⟩ := List.mem_map.1 h
  exact fillRow_len _ _ _

theorem rows_put {F : Nat → Prop} {w0 w : World} {l : List Assn} {g c i : Nat} {rows : List RowM} (h : In F w0 (RowsA (.slice (some ⟨g, 0, none⟩) rows.length c) rows :: l) w) (hi : i < rows.length) (x : RowM) :
    fits w g (i * 11) 11 = true ∧ In F w0 (RowsA (.slice (some ⟨g, 0, none⟩) rows.length c) (rows.set i x) :: l) (putRow w g (i * 11) (rowE x)) := by
  obtain ⟨F1, hA, _, hback⟩ := h.open_
  have h1 := own_put (enc := rowE) rowE_len hA.1 hi x
  refine ⟨own_fits hA.1 hi, hback (A' := RowsA (.slice (some ⟨g, 0, none⟩) rows.length c) (rows.set i x)) ⟨?_, fun k hk => Or.inl (hA.2 k hk)⟩ ((Only.putRow _ _ _ _).mono fun q _ e => by subst e; exact hA.2 _ rfl)⟩
  rw [List.length_set]; exact h1
theorem rows_cut {F : Nat → Prop} {w0 w : World} {l : List Assn} {A : Option Addr} {n c m : Nat} {rows : List RowM} (h : In F w0 (RowsA (.slice A n c) rows :: l) w) (hn : n = rows.length) (hm : m ≤ n) :
    In F w0 (RowsA (.slice A m c) (rows.take m) :: l) w := by
  subst hn
  obtain ⟨F1, hA, _, hback⟩ := h.open_
  have h1 := own_cut hA.1 hm
  rw [flat_take rowC_len] at h1
  refine hback (A' := RowsA (.slice A m c) (rows.take m)) ⟨?_, fun k hk => Or.inl (hA.2 k (by first | exact hk | (cases A <;> exact hk) | simpa [Value.ownBlock] using hk))⟩ Only.refl
  rw [List.length_take, Nat.min_eq_left hm]; exact h1

set_option maxHeartbeats 8000000 in
set_option maxRecDepth 100000 in
theorem tableRemoves_any (kinds : Int) (A : Option Addr) (n c : Nat) (zs : List Int) (k : Int) (w : World) (h : ReadsI w w.heap.size A n zs) (hnc : n ≤ c) (hc : c ≤ maxLen) :
    Calls Try.prog 4 #[.int .i64 kinds, .slice A n c, .int .i64 k] w fun e w' => e = .returned (.bool true) ∧ Below w.heap.size w w' := by
  have H := Lib.hid h
  clear h
  have hm60 : min n 60 ≤ 60 := by omega
  have hneq : ∀ xs : List Int, xs.length = 11 → ∀ W, (binOp .neq 41 (.agg (ints xs)) (.agg (ints xs))).run Try.prog W = .ok (.bool false) W := fun xs hx W => by rw [neq_row xs xs hx hx W]; simp
  have HNEQ := Lib.hid hneq
  clear hneq
  go_enter Try.func4, Try.ntmps4
  go_wp2_with fail
  refine (tabled_any w).mono ?_
  rintro e w1 ⟨rfl, hb1⟩
  have HI1 : Hid (In (fun _ => False) w [] w1) := (In.nil w _).below hb1
  clear hb1
  go_wp2_with fail
  refine (filled_any kinds A n c zs w w1 H.out hnc hc HI1.out).mono ?_
  rintro e w2 ⟨p, v, rfl, hI⟩
  generalize min n 60 = m at *
  have HL : Hid ((fillN (kinds % 256) zs m).length = m) := fillN_len _ _ _
  have HMEM : Hid (∀ r ∈ fillN (kinds % 256) zs m, r.b.v.length = 8) := fun r hr => fillN_mem hr
  have hK : 0 ≤ kinds % 256 ∧ kinds % 256 ≤ 255 := by omega
  generalize fillN (kinds % 256) zs m = rows at *
  generalize kinds % 256 = K at *
  have HI := Lib.hid hI
  obtain ⟨A2, c2, rfl, hc1, hc2, _⟩ := hI.rowsAt
  rw [HL.out]
  have hmi : (m : Int) ≤ 60 := by omega
  clear hI HI1
  by_cases hm0 : m = 0
  · have hz : ((m : Int) == 0) = true := by rw [hm0]; rfl
    have hr0 : rows = [] := List.eq_nil_of_length_eq_zero (by rw [HL.out]; exact hm0)
    have hRR : Hid (removeR rows 0 = ([], zeroRow, 5)) := by rw [hr0]; rfl
    clear hr0 hm0
    go_wp2_with fail
    refine (tremove_in (In.swap HI.out) 0 (by rw [HL.out]; omega)).mono ?_
    rintro e w3 ⟨rfl, hI3⟩
    rw [hRR.out] at hI3 ⊢
    have HI3 := Lib.hid ((hI3.struct 41 zeroRow.list zeroRow.list rfl).below0)
    clear hI3
    go_wp2_with fail
    go_ret
    exact ⟨rfl, HI3.out⟩
  have hz : ((m : Int) == 0) = false := by simp; omega
  have hmp : (0 : Int) < m := by omega
  go_wp2_with fail
  refine (rest_any k (m : Nat) _ hmp (by omega)).mono ?_
  rintro e w' ⟨rfl, rfl⟩
  have hk0 := Int.emod_nonneg k (show (m : Int) ≠ 0 by omega)
  have hk1 := Int.emod_lt_of_pos k hmp
  generalize k % (m : Int) = k at *
  obtain ⟨i, rfl⟩ : ∃ i : Nat, k = i := ⟨k.toNat, by omega⟩
  have him : i < m := by omega
  obtain ⟨q, rfl⟩ : ∃ q, m = q + 1 := ⟨m - 1, by omega⟩
  have hiq : (i : Int) < (q : Int) + 1 := by omega
  have hqc : (q : Int) + 1 ≤ c2 := by have := HL.out; omega
  have hcc : (c2 : Int) ≤ 9223372036854775807 := by unfold maxLen at hc2; omega
  have HRR : Hid (removeR rows (i : Int) = (cutAt zeroRow rows i, rows.getD i zeroRow, 0)) := removeR_at (by rw [HL.out]; exact him)
  have hxl : (rows.getD i zeroRow).list.length = 11 := by
    have := HMEM.out (rows.getD i zeroRow) (by simp only [List.getD, List.getElem?_eq_getElem (show i < rows.length by rw [HL.out]; exact him), Option.getD_some]; exact List.getElem_mem _)
    generalize rows.getD i zeroRow = r at this ⊢
    simp [RowM.list, Beast.list, this]
  go_wp2_with fail
  refine (tremove_in (In.swap HI.out) (i : Int) (by rw [HL.out]; omega)).mono ?_
  rintro e w3 ⟨rfl, hI3⟩
  rw [HRR.out] at hI3 ⊢
  have HI3 := Lib.hid hI3
  obtain ⟨A', c', e0, _, _, hrow⟩ := hI3.swap.rowsAt
  clear hI3 HI
  injection e0 with e1 e2 e3
  subst e1; subst e3
  obtain ⟨g, rfl, _⟩ := hrow i (by rw [HL.out]; exact him)
  clear hrow e2
  go_upto_region 11 with (fail)
  refine wp_abs (In (fun _ => False) w [Box w3.heap.size 41 (ints (rows.getD i zeroRow).list), Tbl p K (cutAt zeroRow rows i), RowsA (.slice (some ⟨g, 0, none⟩) rows.length c2) rows]) (HI3.out.struct 41 zeroRow.list _ hxl) ?_
  generalize w3.heap.size = rb
  intro w4 hI4
  have q1 : row? w4 rb 0 11 = some (ints (rows.getD i zeroRow).list) := hI4.blk.row_all hxl
  obtain ⟨A', c', e0, _, _, hrow⟩ := hI4.third.rowsAt
  injection e0 with e1 e2 e3
  subst e1
  obtain ⟨g', e4, q2⟩ := hrow i (by rw [HL.out]; exact him)
  injection e4 with e4
  injection e4 with e4
  subst e4
  have hEQ : rowE (rows.getD i zeroRow) = (rows.getD i zeroRow).list := fixL_eq hxl
  rw [hEQ] at q2
  have HI4 := Lib.hid hI4.swap
  have hnn := HNEQ.out _ hxl
  have hcl : (cutAt zeroRow rows i).length = q := by rw [cutAt_len, HL.out, Nat.add_sub_cancel]
  have HCL := Lib.hid hcl
  generalize hxs : (rows.getD i zeroRow).list = xs at *
  have HXS := Lib.hid hxs
  clear hI4 hrow e2 e3 hEQ hcl hxs HI3 HRR
  have hw1 : IntKind.i64.wrap ((q : Int) + 1 - 1) = (q : Int) := by rw [IntWalk.i64_in ((q : Int) + 1 - 1) (by omega)]; omega
  have hw2 : IntKind.i64.wrap (q : Int) = (q : Int) := IntWalk.i64_in (q : Int) (by omega)
  have hw3 : ((q : Int) != (q : Int)) = false := by simp
  go_region_with (go_at_call 17; refine (thandles_in HI4.out.drew (by rw [HCL.out]; omega)).mono ?_; rintro e w5 ⟨v5, rfl, ho5, hb5, hI5⟩; obtain ⟨A5, c5, rfl, _, _, _⟩ := own_form ho5; rw [HCL.out]; have HI5 := Lib.hid hI5; clear ho5 hb5 hI5)
  all_goals
    have HI6 := Lib.hid HI5.out.third
    obtain ⟨A', c', e0, _, _, hrow⟩ := HI6.out.rowsAt
    injection e0 with e1 e2 e3
    subst e1; subst e3
    obtain ⟨g', e4, q3⟩ := hrow q (by rw [HL.out]; omega)
    injection e4 with e4
    injection e4 with e4
    subst e4
    have hp := rows_put HI6.out (i := i) (by rw [HL.out]; exact him) (rows.getD q zeroRow)
    have f2 := hp.1
    have HP := Lib.hid hp.2
    have hylen : (rowE (rows.getD q zeroRow)).length = 11 := rowE_len _
    have HCA : Hid (cutAt zeroRow rows i = (rows.set i (rows.getD q zeroRow)).take q) := by
      unfold Hid cutAt; rw [HL.out, Nat.add_sub_cancel]
    have HQ : Hid (q ≤ rows.length ∧ rows.length = (rows.set i (rows.getD q zeroRow)).length) := ⟨by rw [HL.out]; omega, by rw [List.length_set]⟩
    clear hp hrow e2 HI5 HI6
    generalize rowE (rows.getD q zeroRow) = ys at *
    have HC : Hid (In (fun _ => False) w [RowsA (.slice (some ⟨g, 0, none⟩) q c2) (cutAt zeroRow rows i), Tbl p K (cutAt zeroRow rows i), Box rb 41 (ints xs)] (putRow w5 g (i * 11) ys)) := by
      have h1 := rows_cut HP.out (m := q) HQ.out.2 HQ.out.1
      rw [← HCA.out] at h1
      exact h1
    have HLM : Hid (∀ r ∈ cutAt zeroRow rows i, r.b.v.length = 8) := fun r hr => HMEM.out r (cutAt_mem (by rw [HL.out]; exact him) hr)
    clear HP HCA HQ HMEM
    go_upto_region 14 with (fail)
    refine wp_abs (In (fun _ => False) w [RowsA (.slice (some ⟨g, 0, none⟩) q c2) (cutAt zeroRow rows i), Tbl p K (cutAt zeroRow rows i), Box rb 41 (ints xs)]) HC.out ?_
    intro w6 hI6
    have HI6 := Lib.hid hI6
    clear HC hI6 q3 f2 hylen
    generalize cutAt zeroRow rows i = L at *
    go_wp2_with fail
    go_loopw [81] (fun i w' => ∃ j : Nat, j ≤ q ∧ i = .int .i64 j ∧ In (fun _ => False) w [RowsA (.slice (some ⟨g, 0, none⟩) q c2) L, Tbl p K L, Box rb 41 (ints xs)] w') (fun i _ => q - (intOf i).toNat)
    case atStart => exact ⟨0, by omega, rfl, HI6.out⟩
    case round =>
      clear HI6
      obtain ⟨j, hj, rfl, hI⟩ := hrel
      have HI := Lib.hid hI
      clear hI
      by_cases hlt : j < q
      · obtain ⟨A', c', e0, _, _, hrow⟩ := HI.out.rowsAt
        injection e0 with e1 e2 e3
        subst e1; subst e3
        obtain ⟨g', e4, q4⟩ := hrow j (by rw [HCL.out]; exact hlt)
        injection e4 with e4
        injection e4 with e4
        subst e4
        have hjl : j < L.length := by rw [HCL.out]; exact hlt
        have hv := HLM.out (L.getD j zeroRow) (by simp only [List.getD, List.getElem?_eq_getElem hjl, Option.getD_some]; exact List.getElem_mem _)
        rw [rowE_eq hv] at q4
        have hzl : (L.getD j zeroRow).list.length = 11 := by
          generalize L.getD j zeroRow = r at hv ⊢
          simp [RowM.list, Beast.list, hv]
        have HRR : Hid ((rowR L (j : Int)).1.list = (L.getD j zeroRow).list ∧ (rowR L (j : Int)).2 = 0) := by
          rw [rowR_at hjl]; exact ⟨rfl, rfl⟩
        have hjq : (j : Int) < q := by omega
        have hjc : (j : Int) < c2 := by omega
        clear hrow e2 hv hjl
        generalize (L.getD j zeroRow).list = zs' at *
        go_upto_region 17 with (fail)
        refine wp_abs (In (fun _ => False) w [Box wr.heap.size 41 (ints zs'), RowsA (.slice (some ⟨g, 0, none⟩) q c2) L, Tbl p K L, Box rb 41 (ints xs)]) (HI.out.struct 41 zeroRow.list zs' hzl) ?_
        generalize wr.heap.size = yb
        intro w7 hI7
        have HI7 := Lib.hid hI7.third
        clear hI7 q4
        go_wp2_with fail
        refine (trow_in HI7.out (j : Int) (by rw [HCL.out]; omega)).mono ?_
        rintro e w8 ⟨rfl, hb8, hI8⟩
        rw [HRR.out.1, HRR.out.2]
        have HI8 := Lib.hid hI8
        clear hb8 hI8 HI7
        go_upto_region 18 with (fail)
        refine wp_abs (In (fun _ => False) w [Box w8.heap.size 41 (ints zs'), Tbl p K L, Box yb 41 (ints zs'), RowsA (.slice (some ⟨g, 0, none⟩) q c2) L, Box rb 41 (ints xs)]) (HI8.out.struct 41 zeroRow.list zs' hzl) ?_
        generalize w8.heap.size = zb
        intro w9 hI9
        have q5 : row? w9 zb 0 11 = some (ints zs') := hI9.blk.row_all hzl
        have q6 : row? w9 yb 0 11 = some (ints zs') := hI9.third.blk.row_all hzl
        have HI9 : Hid (In (fun _ => False) w [RowsA (.slice (some ⟨g, 0, none⟩) q c2) L, Tbl p K L, Box rb 41 (ints xs)] w9) := hI9.drop.swap.drop.swap
        have hn := HNEQ.out zs' hzl
        clear hI9 HI8
        go_wp2_with fail
        go_roundw
        case rel => exact ⟨j + 1, by omega, by go_num, HI9.out.below ⟨rfl, rfl, rfl, Nat.le_refl _, fun _ _ => rfl⟩⟩
        case measure => simp [intOf]; omega
      · have hjq : j = q := by omega
        subst hjq
        go_wp2_with fail
        go_ret
        exact ⟨rfl, HI.out.below0⟩

end Go.Proofs.Ytpgdobomcdpdbaa
