/-
  The walk of the law TableEmpties.
-/
import Derived.Test.YtpgdobomcdpdbaaTableRemoves
import Derived.Test.YtpgdobomcdpdbaaEmptyMath
import Derived.BigQuiet
namespace Go.Proofs.Ytpgdobomcdpdbaa
open Go.RowKit

abbrev SeenA (b : Nat) (m : List (Int × Bool)) : Assn := MapA (Value.int .i64) Value.bool goodI b m

set_option maxHeartbeats 4000000 in
set_option maxRecDepth 100000 in
theorem tableEmpties_any (kinds : Int) (A : Option Addr) (n c : Nat) (zs : List Int) (A' : Option Addr) (n' c' : Nat) (ord : List Int) (w : World) (h : ReadsI w w.heap.size A n zs) (hnc : n ≤ c) (hc : c ≤ maxLen)
    (h' : ReadsI w w.heap.size A' n' ord) (hnc' : n' ≤ c') (hc' : c' ≤ maxLen) :
    Calls Try.prog 5 #[.int .i64 kinds, .slice A n c, .slice A' n' c'] w fun e w' => e = .returned (.bool true) ∧ Below w.heap.size w w' := by
  have H := Lib.hid h
  have H' := Lib.hid h'
  clear h h'
  have hn' : (n' : Int) ≤ 9223372036854775807 := by unfold maxLen at hc'; omega
  have hm60 : min n 60 ≤ 60 := by omega
  have hneq : ∀ xs : List Int, xs.length = 11 → ∀ W, (binOp .neq 41 (.agg (ints xs)) (.agg (ints xs))).run Try.prog W = .ok (.bool false) W := fun xs hx W => by rw [neq_row xs xs hx hx W]; simp
  have HNEQ := Lib.hid hneq
  clear hneq
  go_enter Try.func5, Try.ntmps5
  go_wp2_with fail
  refine (tabled_any w).mono ?_
  rintro e w1 ⟨rfl, hb1⟩
  have HI1 : Hid (In (fun _ => False) w [] w1) := (In.nil w _).below hb1
  clear hb1
  go_wp2_with fail
  refine (filled_any kinds A n c zs w w1 H.out hnc hc HI1.out).mono ?_
  rintro e w2 ⟨p, v, rfl, hI⟩
  generalize min n 60 = m at *
  have HL : Hid ((fillN (kinds % 256) zs m).length = m) := fillN_len _ _ _
  have HMEM : Hid (∀ r ∈ fillN (kinds % 256) zs m, r.b.v.length = 8) := fun r hr => fillN_mem hr
  have HLEFT : Hid (Left (fillN (kinds % 256) zs m) (fillN (kinds % 256) zs m) []) := Left.fill _ _ _
  have hK : 0 ≤ kinds % 256 ∧ kinds % 256 ≤ 255 := by omega
  generalize fillN (kinds % 256) zs m = rows at *
  generalize kinds % 256 = K at *
  have HI := Lib.hid hI
  obtain ⟨A2, c2, rfl, hc1, hc2, _⟩ := hI.rowsAt
  rw [HL.out]
  have hmi : (m : Int) ≤ 60 := by omega
  clear hI HI1 H
  have hmm := @run_makeMap Try.prog
  go_upto_region 7 with (fail)
  refine wp_abs (In (fun _ => False) w [SeenA w2.heap.size [], RowsA (.slice A2 rows.length c2) rows, Tbl p K rows]) (HI.out.newMap _ _ _) ?_
  generalize w2.heap.size = sb
  intro w3 hI3
  have HI3 := Lib.hid hI3
  clear hI3 HI hmm
  go_wp2_with fail
  go_loopw [27] (fun i w' => ∃ (j : Nat) (cur : List RowM) (sn : List (Int × Bool)), j ≤ m ∧ i = .int .i64 j ∧ cur.length + j = m ∧ Left rows cur sn ∧ In (fun _ => False) w [SeenA sb sn, RowsA (.slice A2 rows.length c2) rows, Tbl p K cur] w') (fun i _ => m - (intOf i).toNat)
  case atStart => exact ⟨0, rows, [], by omega, rfl, by rw [HL.out]; rfl, HLEFT.out, HI3.out⟩
  case round =>
    clear HI3 HLEFT
    obtain ⟨j, cur, sn, hj, rfl, hcl, hleft, hI⟩ := hrel
    have HI := Lib.hid hI
    have HLE := Lib.hid hleft
    have HCL := Lib.hid hcl
    clear hI hleft
    by_cases hlt : j < m
    · have hjm : (j : Int) < m := by omega
      have hmc : (m : Int) ≤ 9223372036854775807 := by omega
      have hjo : (j : Int) < 1000 := by omega
      by_cases hjn : j < n'
      case' pos =>
        obtain ⟨b, o, rfl, hbl, hkl, hcell⟩ := H'.out.at_ (k := j) hjn
        have hcj : wr.cell? ⟨b, o + j, none⟩ = some (.int .i64 ord[j]) := (HI.out.below0.cell (p := ⟨b, o + j, none⟩) hbl).trans hcell
        have hjni : (j : Int) < n' := by omega
        have hsub : IntKind.i64.wrap ((m : Int) - (j : Int)) = (m : Int) - (j : Int) := IntWalk.i64_in ((m : Int) - (j : Int)) (by omega)
        generalize ord[j] = x at *
        go_wp2_with fail
        refine (rest_any x ((m : Int) - (j : Int)) _ (by omega) (by omega)).mono ?_
        rintro e w' ⟨rfl, rfl⟩
        have hk0 := Int.emod_nonneg x (show (m : Int) - (j : Int) ≠ 0 by omega)
        have hk1 := Int.emod_lt_of_pos x (show (0 : Int) < (m : Int) - (j : Int) by omega)
        generalize x % ((m : Int) - (j : Int)) = k at *
        obtain ⟨k, rfl⟩ : ∃ i : Nat, k = i := ⟨k.toNat, by omega⟩
        have hkc : k < cur.length := by omega
        have HRR : Hid (removeR cur (k : Int) = (cutAt zeroRow cur k, cur.getD k zeroRow, 0)) := removeR_at hkc
        have hxm : cur.getD k zeroRow ∈ cur := by simp only [List.getD, List.getElem?_eq_getElem hkc, Option.getD_some]; exact List.getElem_mem _
        have hlen : (cutAt zeroRow cur k).length + (j + 1) = m := by rw [cutAt_len]; omega
        have HST := Lib.hid (HLE.out.step hkc)
        go_wp2_with fail
        refine (tremove_in HI.out.third (k : Int) (by omega)).mono ?_
        rintro e w4 ⟨rfl, hI4⟩
        rw [HRR.out] at hI4 ⊢
        clear HRR hk0 hk1 hcj hcell
        generalize cutAt zeroRow cur k = L at *
        generalize cur.getD k zeroRow = x1 at *
      case' neg =>
        have hjni : ¬ (j : Int) < n' := by omega
        have hkc : 0 < cur.length := by omega
        have HRR : Hid (removeR cur (0 : Int) = (cutAt zeroRow cur 0, cur.getD 0 zeroRow, 0)) := removeR_at (i := 0) hkc
        have hxm : cur.getD 0 zeroRow ∈ cur := by simp only [List.getD, List.getElem?_eq_getElem hkc, Option.getD_some]; exact List.getElem_mem _
        have hlen : (cutAt zeroRow cur 0).length + (j + 1) = m := by rw [cutAt_len]; omega
        have HST := Lib.hid (HLE.out.step hkc)
        go_wp2_with fail
        refine (tremove_in HI.out.third (0 : Int) (by omega)).mono ?_
        rintro e w4 ⟨rfl, hI4⟩
        rw [HRR.out] at hI4 ⊢
        clear HRR
        generalize cutAt zeroRow cur 0 = L at *
        generalize cur.getD 0 zeroRow = x1 at *
      all_goals
        obtain ⟨jj, hjj, hs, hget⟩ := HLE.out.sub x1 hxm
        have hfr : mget sn (jj : Int) = none := by rw [← hs]; exact HLE.out.fresh x1 hxm
        have hxl : x1.list.length = 11 := by
          have := HMEM.out x1 (by rw [← hget]; simp only [List.getD, List.getElem?_eq_getElem hjj, Option.getD_some]; exact List.getElem_mem _)
          simp [RowM.list, Beast.list, this]
        have hE : rowE x1 = x1.list := fixL_eq hxl
        have HI4 := Lib.hid hI4
        rw [hs] at HST
        have HG0 : Hid (x1.list[0]? = some (jj : Int)) := by unfold Hid RowM.list; simp [hs]
        clear hI4 HI HLE
        go_upto_region 14 with (fail)
        refine wp_abs (In (fun _ => False) w [Box w4.heap.size 41 (ints x1.list), Tbl p K L, SeenA sb sn, RowsA (.slice A2 rows.length c2) rows]) (HI4.out.struct 41 zeroRow.list x1.list hxl) ?_
        generalize w4.heap.size = rb
        intro w5 hI5
        have q1 : row? w5 rb 0 11 = some (ints x1.list) := hI5.blk.row_all hxl
        have q0 : w5.cell? ⟨rb, 0, none⟩ = some (.int .i64 (jj : Int)) := (hI5.blk.cell 0).trans (by rw [ints, List.getElem?_toArray, List.getElem?_map, HG0.out]; rfl)
        obtain ⟨A', c', e0, _, _, hrow⟩ := hI5.fourth.rowsAt
        injection e0 with e1 e2 e3
        subst e1; subst e3
        obtain ⟨g, rfl, q2⟩ := hrow jj hjj
        rw [hget, hE] at q2
        have hmap : MapAt (Value.int .i64) Value.bool goodI w5 sb sn := hI5.third.mapAt
        have hlk : ∀ k, (Instr.lookup 46 (.map (some sb)) (.int .i64 (jj : Int)) false).run Try.prog (w5.drewN k) = .ok (.bool false) (w5.drewN k) := fun k => by
          have := MapAt.look keyI (w := w5.drewN k) (b := sb) (m := sn) (t := 46) hmap Try.underlying46 (zero_bool _) (x := (jj : Int)) (wf_small (by have := HL.out; omega)) false
          rw [this, hfr]; rfl
        have HI5 := Lib.hid hI5
        have hjm2 : (jj : Int) < m := by have := HL.out; omega
        have hn := HNEQ.out _ hxl
        clear hI5 hrow e2 hmap HI4 hget hE hs hxm
        generalize x1.list = xs at *
        go_quiet (fail)
        have HI6 : Hid (In (fun _ => False) w [Box rb 41 (ints xs), Tbl p K L, SeenA sb sn, RowsA (.slice (some ⟨g, 0, none⟩) rows.length c2) rows] (w5.drewN nq)) := HI5.out.below ⟨rfl, rfl, rfl, Nat.le_refl _, fun _ _ => rfl⟩
        have q0' : (w5.drewN nq).cell? ⟨rb, 0, none⟩ = some (.int .i64 (jj : Int)) := q0
        have hwf : goodI (jj : Int) := wf_small (by omega)
        clear q0 q1 q2 hlk HI5 hn
        generalize w5.drewN nq = w6 at *
        go_wp2_with (at_mapUpdate; go_loud (refine wpList_store keyI rfl _ _ _ 46 4 rfl Try.underlying46 sb sn rfl HI6.out.third.mapAt (jj : Int) rfl hwf true rfl ?_))
        intro w7 h1 h2 h3
        have HI7 := Lib.hid (In.mapped HI6.out.third h1 h2)
        clear h1 h2 h3 q0' hwf
        go_wp2_with fail
        go_roundw
        case rel => exact ⟨j + 1, L, mput sn (jj : Int) true, by omega, by go_num, hlen, HST.out, (HI7.out.swap.drop).perm ((List.Perm.swap _ _ _).cons _)⟩
        case measure => simp [intOf]; omega
    · have hjm : j = m := by omega
      subst hjm
      have hc0 : cur = [] := List.eq_nil_of_length_eq_zero (by omega)
      subst hc0
      go_wp2_with fail
      refine (thandles_in HI.out.third (by simp)).mono ?_
      rintro e w4 ⟨v4, rfl, ho4, hb4, hI4⟩
      obtain ⟨A4, c4, rfl, _, _, _⟩ := own_form ho4
      have HI4 := Lib.hid hI4
      clear ho4 hb4 hI4
      go_wp2_with fail
      go_ret
      exact ⟨rfl, HI4.out.below0⟩

end Go.Proofs.Ytpgdobomcdpdbaa
