/-
  The contract of Table.Add.
-/
import Derived.Test.YtpgdobomcdpdbaaTableMem
import Derived.Test.YtpgdobomcdpdbaaChecks
import Derived.Test.YtpgdobomcdpdbaaQuiet
namespace Go.Proofs.Ytpgdobomcdpdbaa
open Go.RowKit

/-- what Add comes to: the rows, and the two results -/
def addR (K : Int) (rows : List RowM) (r : RowM) : List RowM × Int × Int :=
  if beastErr r.b ≠ 0 then (rows, 0, beastErr r.b) else if r.b.k ≠ K then (rows, 0, 4) else (rows ++ [r], (rows.length : Nat), 0)

set_option maxRecDepth 100000 in
theorem tadd_any (p : Nat) (K : Int) (rows : List RowM) (r : RowM) (F : Nat → Prop) (w : World) (h : (Tbl p K rows).at_ w F) (hr : r.b.v.length = 8) (hl : rows.length ≤ 10000) :
    Calls Try.prog 42 #[.pointer (some ⟨p, 0, none⟩), .agg (ints (hL r.h)), .agg (ints r.b.list)] w fun e w' => e = .returned (.tuple #[.int .i64 (addR K rows r).2.1, .int .i64 (addR K rows r).2.2]) ∧ (Tbl p K (addR K rows r).1).at_ w' (Plus F w w') ∧ Only F w w' := by
  obtain ⟨hT, hK, hv, mb, cb, hs⟩ := h
  have HI0 := Lib.hid (In.start hs)
  have HT := Lib.hid hT
  have HK := Lib.hid hK
  clear hs hT hK
  obtain ⟨⟨r1, r2⟩, b⟩ := r
  simp only at hr
  go_enter Try.func42, Try.ntmps42
  go_upto_region 1 with (fail)
  refine wp_abs (In F w (Box (w.heap.size + 1) 39 (ints b.list) :: Box w.heap.size 36 (ints (hL (r1, r2))) :: tblParts p K hv mb cb rows (colOf rows))) (by
    have h2 := (HI0.out.alloc 36 (ints (hL (r1, r2)))).alloc 39 (ints b.list)
    simpa using h2) ?_
  generalize w.heap.size + 1 = bb
  generalize w.heap.size = hb
  intro w1 hI
  have hrow := hI.blk.row_all (n := 9) (by simp [Beast.list, hr])
  have HI := Lib.hid hI
  clear hI HI0
  go_wp2_with fail
  refine (checkBeast_any b hr w1).mono ?_
  rintro e w2 ⟨rfl, hb2⟩
  have HI2 := Lib.hid (HI.out.below hb2)
  clear HI hb2 hrow
  by_cases he : beastErr b = 0
  rotate_left
  · have HR : Hid (addR K rows ⟨(r1, r2), b⟩ = (rows, 0, beastErr b)) := by unfold Hid addR; rw [if_pos he]
    have hne : (beastErr b != 0) = true := by simpa using he
    clear he
    go_wp2_with fail
    go_ret2
    rw [HR.out]
    obtain ⟨g1, g2⟩ := HI2.out.drop.drop.doneL
    exact ⟨rfl, ⟨HT.out, HK.out, hv, mb, cb, g1⟩, g2⟩
  have hne : (beastErr b != 0) = false := by rw [he]; rfl
  have HE := Lib.hid he
  clear he
  have c1 : w2.cell? ⟨bb, 0, none⟩ = some (.int .i64 b.k) := HI2.out.blk.cell 0
  have c2 : w2.cell? ⟨p, 0, none⟩ = some (.int .i64 K) := (In.third HI2.out).blk.cell 0
  rw [HE.out]
  by_cases hk : b.k = K
  rotate_left
  · have HR : Hid (addR K rows ⟨(r1, r2), b⟩ = (rows, 0, 4)) := by unfold Hid addR; rw [if_neg (by simpa using HE.out), if_pos hk]
    have hne2 : (b.k != K) = true := by simpa using hk
    clear hk
    go_wp2_with fail
    go_quiet (fail)
    go_wp2_with fail
    go_ret2
    rw [HR.out]
    have HI3 := HI2.out.below (w' := w2.drewN nq) ⟨rfl, rfl, rfl, Nat.le_refl _, fun _ _ => rfl⟩
    obtain ⟨g1, g2⟩ := HI3.drop.drop.doneL
    exact ⟨rfl, ⟨HT.out, HK.out, hv, mb, cb, g1⟩, g2⟩
  have HR : Hid (addR K rows ⟨(r1, r2), b⟩ = (rows ++ [⟨(r1, r2), b⟩], ((rows.length : Nat) : Int), 0)) := by unfold Hid addR; rw [if_neg (by simpa using HE.out), if_neg (by simpa using hk)]
  have hne2 : (b.k != K) = false := by simpa using hk
  have HKE := Lib.hid hk
  clear hk
  go_wp2_with fail
  go_quiet (fail)
  go_wp2_with fail
  have HI3 : Hid (In F w (Box bb 39 (ints b.list) :: Box hb 36 (ints (hL (r1, r2))) :: tblParts p K hv mb cb rows (colOf rows)) (w2.drewN nq)) := HI2.out.below ⟨rfl, rfl, rfl, Nat.le_refl _, fun _ _ => rfl⟩
  clear HI2 c1 c2 hne2
  generalize w2.drewN nq = w3 at *
  have hrow : row? w3 hb 0 2 = some #[.int .i64 r1, .int .i64 r2] := HI3.out.swap.blk.row_all (xs := [r1, r2]) rfl
  go_still_tail 4, (by kernel_rfl)
  repeat still_step
  change wpList _ _ _ _ _ w3.drew
  have HI4 := Lib.hid HI3.out.drew
  clear HI3 hrow
  generalize w3.drew = w4 at *
  have HI5 := Lib.hid ((In.swap HI4.out).drop.third.third)
  obtain ⟨hB4, hO4, hN4⟩ := In.sliceAt HI5.out
  go_wp2_with fail
  refine (addH_any p 1 90 #[.int .i64 K, hv, .map (some mb)] hv rows.length (rows.flatMap fun r => hC r.h) r1 r2 w4 hB4 rfl hO4 hN4 (by omega)).mono ?_
  rintro e w5 ⟨rfl, hE⟩
  obtain ⟨hv', hI6⟩ := In.added HI5.out hE
  have HI6 : Hid (In F w ([PtrMap mb ((tks K).map fun k : Nat => ((k : Int), cb k)), Box p 90 #[.int .i64 K, hv', .map (some mb)], RowA 36 2 hv' (rows.length + 1) ((rows.flatMap fun r => hC r.h) ++ [.int .i64 r1, .int .i64 r2]), Box bb 39 (ints b.list)] ++ (tks K).map fun k => ColA (cb k) (colOf rows k)) w5) := In.fourth hI6
  have c1 : w5.cell? ⟨p, 2, none⟩ = some (.map (some mb)) := (In.swap HI6.out).blk.cell 2
  clear hE hI6 HI4 HI5 hB4 hO4 hN4
  go_wp2_with (at_range; go_loud (refine wpList_rangeOver rfl _ 88 91 rfl Try.underlying88 mb _ rfl (In.mapAt HI6.out) ?_))
  intro w6 hr6 hb6 hs6
  have HI7 := Lib.hid (In.ranged HI6.out hr6 hb6 hs6)
  generalize w5.heap.size = ri at *
  clear hr6 hb6 hs6 c1
  go_wp2_with fail
  go_loopw [9] (fun _ w' => ∃ left, In F w ([RangeA (Value.int .i64) ptrV goodI mb ri ((tks K).map fun k : Nat => ((k : Int), cb k)) left, Box p 90 #[.int .i64 K, hv', .map (some mb)], RowA 36 2 hv' (rows.length + 1) ((rows.flatMap fun r => hC r.h) ++ [.int .i64 r1, .int .i64 r2]), Box bb 39 (ints b.list)] ++
    (tks K).map fun k : Nat => ColA (cb k) (if (k : Int) ∈ mkeys left then colOf rows k else colOf rows k ++ [b.v.getD k 0])) w') (fun _ w' => w'.rangeLeft mb ri)
  case atStart =>
    refine ⟨(tks K).map fun k : Nat => ((k : Int), cb k), ?_⟩
    have : (tks K).map (fun k : Nat => ColA (cb k) (if (k : Int) ∈ mkeys ((tks K).map fun k : Nat => ((k : Int), cb k)) then colOf rows k else colOf rows k ++ [b.v.getD k 0])) = (tks K).map fun k : Nat => ColA (cb k) (colOf rows k) := by
      apply List.map_congr_left
      intro k hk
      rw [if_pos]
      simp only [mkeys, List.map_map]
      exact List.mem_map.2 ⟨k, hk, rfl⟩
    rw [this]; exact HI7.out
  case round =>
    clear HI7 HI6
    obtain ⟨left, hI⟩ := hrel
    have HI := Lib.hid hI
    clear hI
    go_wp2_with (at_next; go_loud (refine wpList_nextOf keyI rfl _ rfl mb ri _ left rfl (In.rangeAt HI.out) ?_ ?_))
    · intro hl0
      subst hl0
      have HI8 := Lib.hid (In.third (In.third (In.drop (In.fourth (In.unranged HI.out)))))
      obtain ⟨hB, hO, hN⟩ := In.sliceAt HI8.out
      obtain ⟨A', c', rfl, _, _, _⟩ := own_form hO
      have c1 : wr.cell? ⟨p, 1, none⟩ = some (.slice A' (rows.length + 1) c') := hB.cell 1
      have hrl : ((rows.length : Nat) : Int) + 1 ≤ 1000000 := by omega
      clear hB hO hN
      go_wp2_with fail
      go_ret2
      rw [HR.out]
      obtain ⟨g1, g2⟩ := HI8.out.doneL
      refine ⟨by simp, ⟨?_, HK.out, .slice A' (rows.length + 1) c', mb, cb, ?_⟩, g2⟩
      · intro r hr'
        rcases List.mem_append.1 hr' with hr' | hr'
        · exact HT.out r hr'
        · rw [List.mem_singleton.1 hr']
          refine ⟨HKE.out, hr, fun k hk hkt => ?_⟩
          refine ((beast_ok b HE.out).2 k hk).1 ?_
          rw [HKE.out]
          cases hb : K.toNat.testBit k
          · rfl
          · exact absurd (List.mem_filter.2 ⟨by simpa using hk, hb⟩) hkt
      · have e1 : (tks K).map (fun k : Nat => ColA (cb k) (colOf (rows ++ [⟨(r1, r2), b⟩]) k)) = (tks K).map (fun k : Nat => ColA (cb k) (if (k : Int) ∈ mkeys ([] : List (Int × Nat)) then colOf rows k else colOf rows k ++ [b.v.getD k 0])) := by
          apply List.map_congr_left
          intro k _
          rw [if_neg (by simp [mkeys])]
          unfold colOf
          rw [List.map_append]; rfl
        unfold tblParts
        rw [e1, List.length_append, List.flatMap_append]
        exact g1
    · intro x v w7 hx hr7 ho7 hs7 hlt7 hen
      obtain ⟨k, hk, hke⟩ := List.mem_map.1 ((In.rangeAt HI.out).sub _ hx)
      injection hke with e1 e2
      subst e1; subst e2
      have hk8 : k < 8 := by have := (List.mem_filter.1 hk).1; simpa using this
      have hki : (k : Int) < 8 := by omega
      have HI7 : Hid (In F w ([RangeA (Value.int .i64) ptrV goodI mb ri ((tks K).map fun k : Nat => ((k : Int), cb k)) (mdel left (k : Int)), Box p 90 #[.int .i64 K, hv', .map (some mb)], RowA 36 2 hv' (rows.length + 1) ((rows.flatMap fun r => hC r.h) ++ [.int .i64 r1, .int .i64 r2]), Box bb 39 (ints b.list)] ++
        (tks K).map fun k : Nat => ColA (cb k) (if (k : Int) ∈ mkeys left then colOf rows k else colOf rows k ++ [b.v.getD k 0])) w7) := In.stepped HI.out hr7 ho7
      have HK2 := Lib.hid hk
      have HX := Lib.hid hx
      have HLT := Lib.hid hlt7
      have hget : b.v[k]? = some (b.v.getD k 0) := by simp [List.getD, List.getElem?_eq_getElem (show k < b.v.length by omega)]
      have c1 : w7.cell? ⟨bb, 1 + k, none⟩ = some (.int .i64 (b.v.getD k 0)) := by
        rw [(In.fourth HI7.out).blk.cell (1 + k), ints_get, Beast.list, Nat.add_comm, List.getElem?_cons_succ, hget]; rfl
      clear hr7 ho7 hs7 hlt7 hk hx hget
      obtain ⟨y, hy⟩ : ∃ y, b.v.getD k 0 = y := ⟨_, rfl⟩
      rw [hy] at c1
      have HY := Lib.hid hy
      clear hy
      go_wp2_with fail
      obtain ⟨F1, hA, _, hback⟩ := In.openAt HI7.out (tks_nodup K) HK2.out
      have hmem : (k : Int) ∈ mkeys left := List.mem_map.2 ⟨_, HX.out, rfl⟩
      rw [if_pos hmem] at hA
      obtain ⟨v, hB, hO, hN, hadd⟩ := ColAt.parts hA
      have HB := Lib.hid hback
      have HADD := Lib.hid hadd
      have hlc : (colOf rows k).length ≤ 100000 := by unfold colOf; rw [List.length_map]; omega
      refine (addI_any (cb k) 0 96 #[v] v (colOf rows k).length ((colOf rows k).flatMap intC) (y) w7 hB rfl hO hN hlc).mono ?_
      rintro e w8 ⟨rfl, hE⟩
      have hE2 : AddEnd w7 w8 (cb k) 96 #[v] 0 v 3 1 (colOf rows k ++ [y]).length ((colOf rows k ++ [y]).flatMap intC) := by
        rw [List.length_append, List.flatMap_append]; exact hE
      obtain ⟨hC2, hO2⟩ := HADD.out _ _ hE2
      have HI8 := Lib.hid (HB.out _ (ColA (cb k) (colOf rows k ++ [y])) hC2 hO2)
      clear hA hB hO hN hadd hback HB HADD hlc hE hE2 hC2 hO2 HI7 hmem
      go_wp2_with fail
      go_roundw
      case rel =>
        refine ⟨mdel left (k : Int), ?_⟩
        rw [← HY.out] at HI8
        have : (tks K).map (fun j : Nat => ColA (cb j) (if (j : Int) ∈ mkeys (mdel left (k : Int)) then colOf rows j else colOf rows j ++ [b.v.getD j 0])) =
            (tks K).map (fun j : Nat => if j = k then ColA (cb k) (colOf rows k ++ [b.v.getD k 0]) else ColA (cb j) (if (j : Int) ∈ mkeys left then colOf rows j else colOf rows j ++ [b.v.getD j 0])) := by
          apply List.map_congr_left
          intro j hj
          by_cases hjk : j = k
          · subst hjk
            rw [if_neg, if_pos rfl]
            intro hm
            obtain ⟨q, hq, e⟩ := List.mem_map.1 hm
            exact (mem_mdel.1 hq).2 e
          · rw [if_neg hjk]
            have : (j : Int) ∈ mkeys (mdel left (k : Int)) ↔ (j : Int) ∈ mkeys left := by
              constructor
              · intro hm; obtain ⟨q, hq, e⟩ := List.mem_map.1 hm; exact List.mem_map.2 ⟨q, (mem_mdel.1 hq).1, e⟩
              · intro hm; obtain ⟨q, hq, e⟩ := List.mem_map.1 hm; exact List.mem_map.2 ⟨q, mem_mdel.2 ⟨hq, by simp only [e]; omega⟩, e⟩
            by_cases hm : (j : Int) ∈ mkeys left
            · rw [if_pos hm, if_pos (this.2 hm)]
            · rw [if_neg hm, if_neg (fun h => hm (this.1 h))]
        rw [this]; exact HI8.out
      case measure => rw [(In.rangeAt HI8.out).count, (In.rangeAt HI.out).count]; exact HLT.out

end Go.Proofs.Ytpgdobomcdpdbaa
