/-
  The contract of Table.Remove.
-/
import Derived.Test.YtpgdobomcdpdbaaTableRow2
namespace Go.Proofs.Ytpgdobomcdpdbaa
open Go.RowKit

/-- a list without its place i: the last one takes it -/
def cutAt {α : Type} (d : α) (l : List α) (i : Nat) : List α := (l.set i (l.getD (l.length - 1) d)).take (l.length - 1)
def removeR (rows : List RowM) (row : Int) : List RowM × RowM × Int := if isRowB rows.length row then (cutAt zeroRow rows row.toNat, rows.getD row.toNat zeroRow, 0) else (rows, zeroRow, 5)
theorem cutAt_len {α : Type} (d : α) (l : List α) (i : Nat) : (cutAt d l i).length = l.length - 1 := by unfold cutAt; rw [List.length_take, List.length_set]; omega
theorem cutAt_map {α β : Type} (d : α) (d' : β) (f : α → β) (l : List α) (i : Nat) (hi : i < l.length) : (cutAt d l i).map f = cutAt d' (l.map f) i := by
  unfold cutAt
  rw [List.map_take, List.map_set, List.length_map]
  congr 2
  simp only [List.getD, List.getElem?_map, List.getElem?_eq_getElem (show l.length - 1 < l.length by omega), Option.map_some, Option.getD_some]
theorem cutAt_mem {α : Type} {d : α} {l : List α} {i : Nat} {x : α} (hi : i < l.length) (h : x ∈ cutAt d l i) : x ∈ l := by
  unfold cutAt at h
  rcases List.mem_or_eq_of_mem_set (List.mem_of_mem_take h) with h | h
  · exact h
  · rw [h]
    simp only [List.getD, List.getElem?_eq_getElem (show l.length - 1 < l.length by omega), Option.getD_some]
    exact List.getElem_mem _

theorem perm_rem {α : Type} (M P R B S : α) (L : List α) : (M :: P :: R :: B :: S :: L).Perm (B :: S :: ([P, R, M] ++ L)) := by
  have h1 : (M :: P :: R :: B :: S :: L).Perm ((M :: P :: R :: []) ++ ([B, S] ++ L)) := List.Perm.refl _
  have h2 : ((M :: P :: R :: []) ++ ([B, S] ++ L)).Perm ([B, S] ++ ((M :: P :: R :: []) ++ L)) := by
    rw [← List.append_assoc, ← List.append_assoc]
    exact List.Perm.append_right L List.perm_append_comm
  have h3 : (M :: P :: R :: ([] : List α)).Perm [P, R, M] := (List.Perm.swap _ _ _).trans ((List.Perm.swap _ _ _).cons _)
  exact h2.trans (List.Perm.append_left [B, S] (List.Perm.append_right L h3))

set_option maxRecDepth 100000 in
theorem tremove_any (p : Nat) (K : Int) (rows : List RowM) (row : Int) (F : Nat → Prop) (w : World) (h : (Tbl p K rows).at_ w F) (hl : rows.length ≤ 10000) :
    Calls Try.prog 22 #[.pointer (some ⟨p, 0, none⟩), .int .i64 row] w fun e w' => e = .returned (.tuple #[.agg (ints (removeR rows row).2.1.list), .int .i64 (removeR rows row).2.2]) ∧ (Tbl p K (removeR rows row).1).at_ w' (Plus F w w') ∧ Only F w w' := by
  have hT := h.1
  have HI0 := Lib.hid (In.one (A := Tbl p K rows) h)
  clear h
  go_enter Try.func22, Try.ntmps22
  go_upto_region 1 with (fail)
  refine wp_abs (In F w [Box w.heap.size 41 (ints zeroRow.list), Tbl p K rows]) (HI0.out.alloc 41 (ints zeroRow.list)) ?_
  generalize w.heap.size = rs
  intro w1 hI1
  have HI1 := Lib.hid hI1
  obtain ⟨F1, hA⟩ := hI1.swap.head
  obtain ⟨hv, mb, cb, hS⟩ := Tbl.see hA
  clear HI0 hI1 hA
  go_wp2_with fail
  refine (trow_any row w1 hS (by omega)).mono ?_
  rintro e w2 ⟨rfl, hb2⟩
  have HI2 := Lib.hid (HI1.out.below hb2)
  clear HI1 hb2 hS
  have hlen : (rowR rows row).1.list.length = 11 := by have := rowR_len hT row; simp [RowM.list, Beast.list, this]
  cases hr : isRowB rows.length row
  · have HR : Hid (rowR rows row = (zeroRow, 5)) := by unfold Hid rowR; rw [hr]; rfl
    have HR2 : Hid (removeR rows row = (rows, zeroRow, 5)) := by unfold Hid removeR; rw [hr]; rfl
    rw [HR.out]
    clear hr hlen
    go_upto_region 2 with (fail)
    refine wp_abs (In F w [Box w2.heap.size 41 (ints zeroRow.list), Box rs 41 (ints zeroRow.list), Tbl p K rows]) (HI2.out.struct 41 zeroRow.list zeroRow.list rfl) ?_
    generalize w2.heap.size = rb
    intro w3 hI3
    have q1 : row? w3 rb 0 11 = some (ints zeroRow.list) := hI3.blk.row_all rfl
    have f1 : fits w3 rs 0 11 = true := hI3.swap.blk.fits 0 11 (by rw [ints_size]; decide)
    have HI4 := Lib.hid (hI3.swap.put_all zeroRow.list rfl)
    clear hI3 HI2
    go_wp2_with fail
    refine bodyPost_row_tmp rfl rs 41 (ints zeroRow.list) (.int .i64 5) _ rfl rfl HI4.out.blk Try.underlying41 rfl (by rw [ints_size]; exact row_info) rfl ?_
    rw [HR2.out]
    obtain ⟨g1, g2⟩ := HI4.out.drop.drop.done
    exact ⟨rfl, g1, g2⟩
  · have HR : Hid (rowR rows row = (rows.getD row.toNat zeroRow, 0)) := by unfold Hid rowR; rw [hr]; rfl
    have HR2 : Hid (removeR rows row = (cutAt zeroRow rows row.toNat, rows.getD row.toNat zeroRow, 0)) := by unfold Hid removeR; rw [hr]; rfl
    simp only [isRowB, Bool.and_eq_true, decide_eq_true_eq] at hr
    obtain ⟨i, rfl⟩ : ∃ i : Nat, row = i := ⟨row.toNat, by omega⟩
    have hil : i < rows.length := by omega
    rw [HR.out] at hlen ⊢
    rw [Int.toNat_natCast] at HR2 hlen ⊢
    clear hr HR
    generalize hxs : (rows.getD i zeroRow).list = xs at *
    have HXS := Lib.hid hxs
    clear hxs
    go_upto_region 2 with (fail)
    refine wp_abs (In F w [Tbl p K rows, Box w2.heap.size 41 (ints xs), Box rs 41 (ints zeroRow.list)]) ((HI2.out.struct 41 zeroRow.list xs hlen).third) ?_
    generalize w2.heap.size = rb
    clear HI2
    intro w3 hI3
    obtain ⟨_, hK, hv, mb, cb, hI4⟩ := hI3.openTbl
    have HI4 : Hid (In F w ([Box p 90 #[.int .i64 K, hv, .map (some mb)], RowA 36 2 hv rows.length (rows.flatMap fun r => hC r.h), PtrMap mb ((tks K).map fun k : Nat => ((k : Int), cb k)), Box rb 41 (ints xs), Box rs 41 (ints zeroRow.list)] ++ (tks K).map fun k => ColA (cb k) (colOf rows k)) w3) :=
      hI4.perm (List.Perm.append_left [_, _, _] List.perm_append_comm)
    clear hI3 hI4
    obtain ⟨hB4, hO4, hN4⟩ := In.sliceAt HI4.out
    have HK := Lib.hid hK
    have hfm : (rows.map (·.h)).flatMap hC = rows.flatMap fun r => hC r.h := by rw [List.flatMap_map]
    have hlm : (rows.map (·.h)).length = rows.length := List.length_map ..
    have HO4 : w3.ownsRow 0 36 2 hv (rows.map (·.h)).length ((rows.map (·.h)).flatMap hC) := by rw [hfm, hlm]; exact hO4
    have HO5 := Lib.hid HO4
    clear hK hO4 HO4 hfm
    go_wp2_with fail
    refine (removeH_any p 1 90 #[.int .i64 K, hv, .map (some mb)] hv (rows.map (·.h)) i w3 hB4 rfl HO5.out hN4 (by rw [hlm]; omega) (by rw [hlm]; exact hil)).mono ?_
    rintro e w5 ⟨rfl, hE⟩
    have hE' : AddEnd w3 w5 p 90 #[.int .i64 K, hv, .map (some mb)] 1 hv 36 2 (rows.length - 1) ((cutAt zeroRow rows i).flatMap fun r => hC r.h) := by
      have e1 : (cutAt zeroRow rows i).flatMap (fun r => hC r.h) = (cutAt (0, 0) (rows.map (·.h)) i).flatMap hC := by rw [← cutAt_map zeroRow (0, 0) (·.h) rows i hil, List.flatMap_map]
      rw [e1]
      unfold cutAt
      rw [hlm] at hE ⊢
      exact hE
    obtain ⟨hv', hI6⟩ := In.added HI4.out hE'
    have HCOL : Hid (∀ k, cutAt 0 (colOf rows k) i = colOf (cutAt zeroRow rows i) k) := fun k => (cutAt_map zeroRow 0 (fun r : RowM => r.b.v.getD k 0) rows i hil).symm
    have HTR : Hid (TRows K (cutAt zeroRow rows i)) := fun r hr => hT r (cutAt_mem hil hr)
    have hcl : (cutAt zeroRow rows i).length = rows.length - 1 := cutAt_len _ _ _
    have HCL := Lib.hid hcl
    generalize hrows' : cutAt zeroRow rows i = rows' at *
    have HI6 : Hid (In F w ([PtrMap mb ((tks K).map fun k : Nat => ((k : Int), cb k)), Box p 90 #[.int .i64 K, hv', .map (some mb)], RowA 36 2 hv' (rows.length - 1) (rows'.flatMap fun r => hC r.h), Box rb 41 (ints xs), Box rs 41 (ints zeroRow.list)] ++ (tks K).map fun k => ColA (cb k) (colOf rows k)) w5) := In.third hI6
    have c1 : w5.cell? ⟨p, 2, none⟩ = some (.map (some mb)) := (In.swap HI6.out).blk.cell 2
    clear hE hE' hI6 HI4 hB4 hN4 HO5 hcl hrows' hlm
    go_wp2_with (at_range; go_loud (refine wpList_rangeOver rfl _ 88 91 rfl Try.underlying88 mb _ rfl (In.mapAt HI6.out) ?_))
    intro w6 hr6 hb6 hs6
    have HI7 := Lib.hid (In.ranged HI6.out hr6 hb6 hs6)
    generalize w5.heap.size = ri at *
    clear hr6 hb6 hs6 c1
    go_wp2_with fail
    go_loopw [9] (fun _ w' => ∃ left, In F w ([RangeA (Value.int .i64) ptrV goodI mb ri ((tks K).map fun k : Nat => ((k : Int), cb k)) left, Box p 90 #[.int .i64 K, hv', .map (some mb)], RowA 36 2 hv' (rows.length - 1) (rows'.flatMap fun r => hC r.h), Box rb 41 (ints xs), Box rs 41 (ints zeroRow.list)] ++
      (tks K).map fun k : Nat => ColA (cb k) (if (k : Int) ∈ mkeys left then colOf rows k else colOf rows' k)) w') (fun _ w' => w'.rangeLeft mb ri)
    case atStart =>
      refine ⟨(tks K).map fun k : Nat => ((k : Int), cb k), ?_⟩
      have : (tks K).map (fun k : Nat => ColA (cb k) (if (k : Int) ∈ mkeys ((tks K).map fun k : Nat => ((k : Int), cb k)) then colOf rows k else colOf rows' k)) = (tks K).map fun k : Nat => ColA (cb k) (colOf rows k) := by
        apply List.map_congr_left
        intro k hk
        rw [if_pos]
        simp only [mkeys, List.map_map]
        exact List.mem_map.2 ⟨k, hk, rfl⟩
      rw [this]; exact HI7.out
    case round =>
      clear HI7 HI6
      obtain ⟨left, hI⟩ := hrel
      have HI := Lib.hid hI
      clear hI
      go_wp2_with (at_next; go_loud (refine wpList_nextOf keyI rfl _ rfl mb ri _ left rfl (In.rangeAt HI.out) ?_ ?_))
      · intro hl0
        subst hl0
        have HI8 : Hid (In F w (Box rb 41 (ints xs) :: Box rs 41 (ints zeroRow.list) :: (tblParts p K hv' mb cb rows' (colOf rows'))) wr) := by
          have h1 := In.unranged HI.out
          have e1 : (tks K).map (fun k : Nat => ColA (cb k) (if (k : Int) ∈ mkeys ([] : List (Int × Nat)) then colOf rows k else colOf rows' k)) = (tks K).map (fun k : Nat => ColA (cb k) (colOf rows' k)) := by
            apply List.map_congr_left
            intro k _
            rw [if_neg (by simp [mkeys])]
          have h2 : In F w (PtrMap mb ((tks K).map fun k : Nat => ((k : Int), cb k)) :: Box p 90 #[.int .i64 K, hv', .map (some mb)] :: RowA 36 2 hv' (rows.length - 1) (rows'.flatMap fun r => hC r.h) :: Box rb 41 (ints xs) :: Box rs 41 (ints zeroRow.list) :: (tks K).map (fun k : Nat => ColA (cb k) (colOf rows' k))) wr := by rw [← e1]; exact h1
          unfold tblParts
          rw [HCL.out]
          exact h2.perm (perm_rem _ _ _ _ _ _)
        have q1 : row? wr rb 0 11 = some (ints xs) := HI8.out.blk.row_all hlen
        have f1 : fits wr rs 0 11 = true := HI8.out.swap.blk.fits 0 11 (by rw [ints_size]; decide)
        have HI9 := Lib.hid (HI8.out.swap.put_all xs hlen)
        have HLEN := Lib.hid hlen
        go_wp2_with fail
        refine bodyPost_row_tmp rfl rs 41 (ints xs) (.int .i64 0) _ rfl rfl HI9.out.blk Try.underlying41 rfl (by rw [ints_size, HLEN.out]; exact row_info) rfl ?_
        rw [HR2.out]
        have hIT := In.shutTbl (l := []) HTR.out HK.out (by rw [List.append_nil]; exact HI9.out.drop.drop)
        obtain ⟨g1, g2⟩ := hIT.done
        exact ⟨by rw [← HXS.out], g1, g2⟩
      · intro x v w7 hx hr7 ho7 hs7 hlt7 hen
        obtain ⟨k, hk, hke⟩ := List.mem_map.1 ((In.rangeAt HI.out).sub _ hx)
        injection hke with e1 e2
        subst e1; subst e2
        have HI7 : Hid (In F w ([RangeA (Value.int .i64) ptrV goodI mb ri ((tks K).map fun k : Nat => ((k : Int), cb k)) (mdel left (k : Int)), Box p 90 #[.int .i64 K, hv', .map (some mb)], RowA 36 2 hv' (rows.length - 1) (rows'.flatMap fun r => hC r.h), Box rb 41 (ints xs), Box rs 41 (ints zeroRow.list)] ++
          (tks K).map fun k : Nat => ColA (cb k) (if (k : Int) ∈ mkeys left then colOf rows k else colOf rows' k)) w7) := In.stepped HI.out hr7 ho7
        have HK2 := Lib.hid hk
        have HX := Lib.hid hx
        have HLT := Lib.hid hlt7
        clear hr7 ho7 hs7 hlt7 hk hx
        go_wp2_with fail
        obtain ⟨F1, hA, _, hback⟩ := In.openAt HI7.out (tks_nodup K) HK2.out
        have hmem : (k : Int) ∈ mkeys left := List.mem_map.2 ⟨_, HX.out, rfl⟩
        rw [if_pos hmem] at hA
        obtain ⟨v, hB, hO, hN, hadd⟩ := ColAt.parts hA
        have HB := Lib.hid hback
        have HADD := Lib.hid hadd
        have hlc : (colOf rows k).length = rows.length := by unfold colOf; rw [List.length_map]
        refine (removeI_any (cb k) 0 96 #[v] v (colOf rows k) i w7 hB rfl hO hN (by omega) (by omega)).mono ?_
        rintro e w8 ⟨rfl, hE⟩
        have hE2 : AddEnd w7 w8 (cb k) 96 #[v] 0 v 3 1 (colOf rows' k).length ((colOf rows' k).flatMap intC) := by
          rw [← HCOL.out k, cutAt_len]; exact hE
        obtain ⟨hC2, hO2⟩ := HADD.out _ _ hE2
        have HI8 := Lib.hid (HB.out _ (ColA (cb k) (colOf rows' k)) hC2 hO2)
        clear hA hB hO hN hadd hback HB HADD hlc hE hE2 hC2 hO2 HI7 hmem
        go_wp2_with fail
        go_roundw
        case rel =>
          refine ⟨mdel left (k : Int), ?_⟩
          have : (tks K).map (fun j : Nat => ColA (cb j) (if (j : Int) ∈ mkeys (mdel left (k : Int)) then colOf rows j else colOf rows' j)) =
              (tks K).map (fun j : Nat => if j = k then ColA (cb k) (colOf rows' k) else ColA (cb j) (if (j : Int) ∈ mkeys left then colOf rows j else colOf rows' j)) := by
            apply List.map_congr_left
            intro j hj
            by_cases hjk : j = k
            · subst hjk
              rw [if_neg, if_pos rfl]
              intro hm
              obtain ⟨q, hq, e⟩ := List.mem_map.1 hm
              exact (mem_mdel.1 hq).2 e
            · rw [if_neg hjk]
              have : (j : Int) ∈ mkeys (mdel left (k : Int)) ↔ (j : Int) ∈ mkeys left := by
                constructor
                · intro hm; obtain ⟨q, hq, e⟩ := List.mem_map.1 hm; exact List.mem_map.2 ⟨q, (mem_mdel.1 hq).1, e⟩
                · intro hm; obtain ⟨q, hq, e⟩ := List.mem_map.1 hm; exact List.mem_map.2 ⟨q, mem_mdel.2 ⟨hq, by simp only [e]; omega⟩, e⟩
              by_cases hm : (j : Int) ∈ mkeys left
              · rw [if_pos hm, if_pos (this.2 hm)]
              · rw [if_neg hm, if_neg (fun h => hm (this.1 h))]
          rw [this]; exact HI8.out
        case measure => rw [(In.rangeAt HI8.out).count, (In.rangeAt HI.out).count]; exact HLT.out

end Go.Proofs.Ytpgdobomcdpdbaa
