/-
  Several texts in one (merged by a program of mine): DiffBetween.
-/
import Derived.Test.YtjggdpnamakoeaaGreatOWP48
set_option linter.unusedVariables false
set_option linter.unusedSimpArgs false
set_option linter.unusedSectionVars false
/-
  The contract of diff.Between.
-/
namespace Go.Proofs.YtjggdpnamakoeaaGreat
open Go.RowKit

def rC (r : RowD) : List Value := (rL r).map (Value.int .i64)
def cC (c : Chg) : List Value := (cL c).map (Value.int .i64)
theorem rC_len (r : RowD) : (rC r).length = 11 := by unfold rC; rw [List.length_map, rL_len]
theorem cC_len (c : Chg) : (cC c).length = 20 := by unfold cC; rw [List.length_map, cL_len]
abbrev RowR (v : Value) (rs : List RowD) : Assn := RowA 49 11 v rs.length (rs.flatMap rC)
abbrev RowC (v : Value) (cs : List Chg) : Assn := RowA 64 20 v cs.length (cs.flatMap cC)
theorem change_parts : (Tryz.prog.info? 64).map (fun i => (i.zero, i.size, i.bytes)) = some (some (.agg (ints (List.replicate 20 0))), 20, 160) := by kernel_rfl
theorem row_partsD : (Tryz.prog.info? 49).map (fun i => (i.zero, i.size, i.bytes)) = some (some (.agg (ints (List.replicate 11 0))), 11, 88) := by kernel_rfl
theorem dget_len {m : List RowD} (h : ∀ r ∈ m, RowOk r) (k : Hd) : (dget m k).length = 9 := by
  unfold dget
  cases e : mget m k with
  | none => rfl
  | some v => exact h _ (mget_mem e)
theorem ofD_ok {a : List RowD} (hm : mayD a = true) (h : ∀ r ∈ a, RowOk r) : ∀ r ∈ ofD a, RowOk r := by rw [ofD_eq hm]; exact h
def betweenTo (x y : List RowD) (hs : List Hd) (k : Nat) : List Chg := ((hs.take k).map (chgAt x y)).filter chgIs
theorem betweenTo_succ (x y : List RowD) (hs : List Hd) (k : Nat) (h : k < hs.length) : betweenTo x y hs (k + 1) = if (dget x hs[k]) = (dget y hs[k]) then betweenTo x y hs k else betweenTo x y hs k ++ [⟨hs[k], dget x hs[k], dget y hs[k]⟩] := by
  unfold betweenTo
  rw [List.take_succ_eq_append_getElem h, List.map_append, List.filter_append]
  simp only [List.map_cons, List.map_nil, List.filter_cons, List.filter_nil, chgAt, chgIs]
  by_cases e : dget x hs[k] = dget y hs[k]
  · rw [if_pos e]; simp [e]
  · rw [if_neg e]; simp [e]
theorem betweenTo_len (x y : List RowD) (hs : List Hd) (k : Nat) : (betweenTo x y hs k).length ≤ hs.length := by
  unfold betweenTo
  refine Nat.le_trans (List.length_filter_le _ _) ?_
  rw [List.length_map, List.length_take]
  omega

theorem row_new_put {w : World} {g o n : Nat} {x : Array Value} (t : TypeId) (zs xs : List Int) (h : row? w g o n = some x) : row? (putRow (w.alloc (.cells (ints zs) t)) w.heap.size 0 xs) g o n = some x := row_after (below_new_put w t zs xs) h
theorem row_put_far {w : World} {g g' o o' n : Nat} {x : Array Value} {xs : List Int} (hne : g ≠ g') (h : row? w g o n = some x) : row? (putRow w g' o' xs) g o n = some x := by
  unfold row? at *; rw [putRow_other w g' o' xs g hne]; exact h
set_option maxHeartbeats 8000000 in
set_option maxRecDepth 100000 in
theorem between_any (A A' : Option Addr) (c c' : Nat) (a b : List RowD) (w : World) (ha : RowsIn w w.heap.size A a) (hb : RowsIn w w.heap.size A' b) (hoa : ∀ r ∈ a, RowOk r) (hob : ∀ r ∈ b, RowOk r) (hla : a.length ≤ maxLen) (hlb : b.length ≤ maxLen) :
    Calls Tryz.prog 41 #[.slice A a.length c, .slice A' b.length c'] w fun e w' => ∃ v, e = .returned (.tuple #[v, .int .i64 (betweenR a b).2]) ∧ In (fun _ => False) w [RowC v (betweenR a b).1] w' := by
  have HA := Lib.hid ha
  have HB := Lib.hid hb
  have HOA := Lib.hid hoa
  have HOB := Lib.hid hob
  have HLA := Lib.hid hla
  have HLB := Lib.hid hlb
  clear ha hb hoa hob hla hlb
  obtain ⟨i0, hi0, hz0, hz1, hz2⟩ := info_parts change_parts
  go_enter Tryz.func41, Tryz.ntmps41
  go_wp2_with fail
  refine (may_any A c a w HA.out HOA.out HLA.out).mono ?_
  rintro e w1 ⟨rfl, hb1⟩
  have HB1 := Lib.hid hb1
  clear hb1
  cases hma : mayD a with
  | false =>
    have HR : Hid (betweenR a b = ([], 4)) := by unfold Hid betweenR; rw [hma]; rfl
    clear hma
    go_wp2_with fail
    go_ret2
    rw [HR.out]
    exact ⟨_, rfl, (In.nilRow (In.nil w _) _ _).below HB1.out⟩
  | true =>
    have HMA := Lib.hid hma
    clear hma
    go_wp2_with fail
    refine (may_any A' c' b w1 (HB.out.below HB1.out |>.more HB1.out.size) HOB.out HLB.out).mono ?_
    rintro e w2 ⟨rfl, hb2⟩
    have HB2 := Lib.hid (HB1.out.trans (hb2.mono HB1.out.size))
    clear hb2 HB1
    cases hmb : mayD b with
    | false =>
      have HR : Hid (betweenR a b = ([], 4)) := by unfold Hid betweenR; rw [HMA.out, hmb]; rfl
      clear hmb
      go_wp2_with fail
      go_ret2
      rw [HR.out]
      exact ⟨_, rfl, (In.nilRow (In.nil w _) _ _).below HB2.out⟩
    | true =>
      have HMB := Lib.hid hmb
      have HR : Hid (betweenR a b = (between a b, 0)) := by unfold Hid betweenR; rw [HMA.out, hmb]; rfl
      clear hmb
      go_wp2_with fail
      refine (dof_any A c a w2 (HA.out.below HB2.out |>.more HB2.out.size) HOA.out HLA.out).mono ?_
      rintro e w3 ⟨mx, rfl, hI3⟩
      rw [ofD_eq HMA.out] at hI3
      have HI3 : Hid (In (fun _ => False) w [DMap mx a] w3) := (In.nil w _).below HB2.out |>.new (A := DMap mx a) hI3.below0 hI3.fresh
      clear hI3 HB2
      go_wp2_with fail
      refine (dof_any A' c' b w3 (HB.out.below HI3.out.below0 |>.more HI3.out.below0.size) HOB.out HLB.out).mono ?_
      rintro e w4 ⟨my, rfl, hI4⟩
      rw [ofD_eq HMB.out] at hI4
      have HI4 : Hid (In (fun _ => False) w [DMap my b, DMap mx a] w4) := HI3.out.new (A := DMap my b) hI4.below0 hI4.fresh
      clear hI4 HI3
      go_wp2_with fail
      refine (mclone_any HI4.out.swap.mapAt).mono ?_
      rintro e w5 ⟨rfl, hM5, hb5⟩
      have HI5 : Hid (In (fun _ => False) w [DMap my b, DMap w4.heap.size a, DMap mx a] w5) := (HI4.out.new (A := DMap w4.heap.size a) hb5 ⟨hM5, Nat.le_refl _⟩).swap
      clear hM5 hb5 HI4
      generalize w4.heap.size = mz at *
      go_wp2_with fail
      refine (mcopy_in (mayD_nodup HMB.out) HOB.out HI5.out).mono ?_
      rintro e w6 ⟨rfl, m', hk6, hI6⟩
      have HND : Hid ((mkeys m').Nodup) := hI6.swap.mapAt.nodup keyHd
      have HSK : Hid (sortedKeys m' = sortedKeys (allOf a b)) := sorted_of_same HND.out (allOf_nodup (mayD_nodup HMA.out)) fun k => by rw [hk6, mem_allOf]
      have HLM : Hid (m'.length ≤ 120) := by
        have h1 := congrArg List.length HSK.out
        rw [sorted_len, sorted_len] at h1
        have h2 := allOf_len (x := a) (y := b)
        have h3 := (mayD_rows HMA.out).2.2
        have h4 := (mayD_rows HMB.out).2.2
        unfold Hid; omega
      have HI6 := Lib.hid hI6
      clear hk6 hI6 HI5 HND
      go_wp2_with fail
      refine (mkeys_any mz w6).mono ?_
      rintro e w7 ⟨rfl, rfl⟩
      have HI7 : Hid (In (fun _ => False) w [Box w6.heap.size 147 #[.map (some mz)], DMap my b, DMap mz m', DMap mx a] (w6.alloc (.cells #[.map (some mz)] 147))) := HI6.out.alloc _ _
      clear HI6
      generalize (w6.alloc (.cells #[.map (some mz)] 147)) = w7 at *
      generalize w6.heap.size = kb at *
      go_wp2_with fail
      refine (sortedKeys_any HI7.out.blk HI7.out.third.mapAt (by have := HLM.out; omega)).mono ?_
      rintro e w8 ⟨hv, rfl, hI8⟩
      have HI8 : Hid (In (fun _ => False) w [RowH hv (sortedKeys m'), Box kb 147 #[.map (some mz)], DMap my b, DMap mz m', DMap mx a] w8) := HI7.out.new (A := RowH hv (sortedKeys m')) hI8.below0 hI8.fresh
      have HLS : Hid ((sortedKeys m').length ≤ 120) := by rw [Hid, sorted_len]; exact HLM.out
      have HBT : Hid (between a b = betweenTo a b (sortedKeys m') (sortedKeys m').length) := by
        unfold Hid betweenTo
        rw [List.take_length, HSK.out]; rfl
      clear hI8 HI7 HLM HSK
      generalize sortedKeys m' = hs at *
      obtain ⟨A7, c7, rfl, hc1, hc2, hrow⟩ := rowH_at HI8.out.rowAt
      have hl120 : (hs.length : Int) ≤ 120 := by have := HLS.out; omega
      have HI8 : Hid (In (fun _ => False) w [RowC (.slice none 0 0) [], RowH (.slice A7 hs.length c7) hs, DMap my b, DMap mx a] w8) := by
        have h1 := HI8.out.swap.drop.third.drop.swap
        exact (h1.swap.third.swap.third.swap.nilRow 64 20)
      clear hrow hc1 hc2
      go_wp2_with fail
      go_loopw [9, 34] (fun out i w' => ∃ k : Nat, k ≤ hs.length ∧ i = .int .i64 k ∧ In (fun _ => False) w [RowC out (betweenTo a b hs k), RowH (.slice A7 hs.length c7) hs, DMap my b, DMap mx a] w') (fun _ i _ => hs.length - (intOf i).toNat)
      case atStart => exact ⟨0, by omega, rfl, HI8.out⟩
      case round =>
        clear HI8
        obtain ⟨k, hk, rfl, hI⟩ := hrel
        have HI := Lib.hid hI
        clear hI
        by_cases hlt : k < hs.length
        · have hki : (k : Int) < hs.length := by omega
          obtain ⟨A7', c7', e7, _, _, hrow⟩ := rowH_at HI.out.swap.rowAt
          obtain ⟨g7, hA, hrw⟩ := hrow k hlt
          injection e7 with e1 e2 e3
          subst e1
          subst hA
          have HST := Lib.hid (betweenTo_succ a b hs k hlt)
          have HLK := Lib.hid (betweenTo_len a b hs (k + 1))
          generalize hh : hs[k] = h at *
          clear hh hrow e2 e3
          obtain ⟨h1, h2⟩ := h
          have HX9 : Hid ((dget a (h1, h2)).length = 9) := dget_len HOA.out _
          have HY9 : Hid ((dget b (h1, h2)).length = 9) := dget_len HOB.out _
          go_upto_region 10 with (fail)
          refine wp_abs (In (fun _ => False) w [Box wr.heap.size 41 (ints [h1, h2]), RowC u9 (betweenTo a b hs k), RowH (.slice (some ⟨g7, 0, none⟩) hs.length c7) hs, DMap my b, DMap mx a]) (HI.out.struct 41 [0, 0] [h1, h2] rfl) ?_
          generalize wr.heap.size = hb
          intro w9 hI9
          have s1 : row? w9 hb 0 2 = some (ints [h1, h2]) := hI9.blk.row_all rfl
          have HG1 : Hid (∀ W, Below w9.heap.size w9 W → Calls Tryz.prog 76 #[.map (some mx), .agg (ints [h1, h2])] W fun e w' => e = .returned (.agg (ints (dget a (h1, h2)))) ∧ Below W.heap.size W w') := fun W hW => get_any (hI9.fifth.mapAt.after hW) HOA.out (h1, h2)
          have HG2 : Hid (∀ W, Below w9.heap.size w9 W → Calls Tryz.prog 76 #[.map (some my), .agg (ints [h1, h2])] W fun e w' => e = .returned (.agg (ints (dget b (h1, h2)))) ∧ Below W.heap.size W w') := fun W hW => get_any (hI9.fourth.mapAt.after hW) HOB.out (h1, h2)
          have HLTB : Hid (hb < w9.heap.size) := hI9.blk.lt
          have HI9 := Lib.hid hI9.drop
          clear hI9 hrw HI
          generalize dget a (h1, h2) = ox at *
          generalize dget b (h1, h2) = oy at *
          have x9 := HX9.out
          have y9 := HY9.out
          have HHB : Hid (hb < w9.heap.size) := HLTB.out
          have HLX : Hid ((ox ++ oy).length = 18) := by rw [Hid, List.length_append, x9, y9]
          have HD : Hid (Below w9.heap.size w9 w9.drew) := (Below.refl _ _).drew
          have HDA : Hid (∀ ob, Below w9.heap.size w9 (w9.drew.alloc ob)) := fun ob => HD.out.alloc HD.out.size ob
          go_region_held3 (fun W => row? W hb 0 2 = some (ints [h1, h2])) (first | assumption | (refine row_alloc _ ?_; assumption) | (refine row_new_put _ [0, 0, 0, 0, 0, 0, 0, 0, 0, 0, 0, 0, 0, 0, 0, 0, 0, 0, 0, 0] _ ?_; assumption) | (refine row_put_far (by have := HHB.out; have := H1.out.size; have := H2.out.size; simp at *; omega) ?_; assumption))
            (first
              | (go_at_call 76; refine (HG2.out _ (H1.out)).mono ?_; rintro e w11 ⟨rfl, hb11⟩; have s3 := row_after hb11 s2; have H2 : Hid (Below w9.heap.size w9 w11) := H1.out.trans (hb11.mono H1.out.size); (try (have f3 := (HBL.out.after hb11).fits 0 20 (by rw [ints_size]; simp))); (try (have HBM := Lib.hid (HBL.out.after hb11))); clear hb11)
              | (go_at_call 76; refine (HG2.out _ (H1.out.alloc H1.out.size _)).mono ?_; rintro e w11 ⟨rfl, hb11⟩; have s3 := row_after hb11 (row_alloc _ s2); have H2 : Hid (Below w9.heap.size w9 w11) := (H1.out.alloc H1.out.size _).trans (hb11.mono (H1.out.alloc H1.out.size _).size); have f3 := ((Blk.new w10 64 (ints [0, 0, 0, 0, 0, 0, 0, 0, 0, 0, 0, 0, 0, 0, 0, 0, 0, 0, 0, 0])).after hb11).fits 0 20 (by rw [ints_size]; simp); have HBM := Lib.hid ((Blk.new w10 64 (ints [0, 0, 0, 0, 0, 0, 0, 0, 0, 0, 0, 0, 0, 0, 0, 0, 0, 0, 0, 0])).after hb11); clear hb11)
              | (go_at_call 76; refine (HG1.out _ HD.out).mono ?_; rintro e w10 ⟨rfl, hb10⟩; have s2 := row_after (w := w9.drew) hb10 s1; have H1 : Hid (Below w9.heap.size w9 w10) := HD.out.trans (hb10.mono HD.out.size); clear hb10)
              | (go_at_call 76; refine (HG1.out _ (HDA.out _)).mono ?_; rintro e w10 ⟨rfl, hb10⟩; have s2 := row_after hb10 (row_alloc (w := w9.drew) _ s1); have H1 : Hid (Below w9.heap.size w9 w10) := (HDA.out _).trans (hb10.mono (HDA.out _).size); have HBL := Lib.hid ((Blk.new w9.drew 64 (ints [0, 0, 0, 0, 0, 0, 0, 0, 0, 0, 0, 0, 0, 0, 0, 0, 0, 0, 0, 0])).after hb10); clear hb10))
          all_goals
            have hlen : (h1 :: h2 :: (ox ++ oy)).length = 20 := by have := HLX.out; simp only [List.length_cons]; omega
            (first
              | (obtain ⟨W9, hW9⟩ : ∃ W9, putRow (w11.alloc (.cells #[Value.int .i64 0, Value.int .i64 0, Value.int .i64 0, Value.int .i64 0, Value.int .i64 0, Value.int .i64 0, Value.int .i64 0, Value.int .i64 0, Value.int .i64 0, Value.int .i64 0, Value.int .i64 0, Value.int .i64 0, Value.int .i64 0, Value.int .i64 0, Value.int .i64 0, Value.int .i64 0, Value.int .i64 0, Value.int .i64 0, Value.int .i64 0, Value.int .i64 0] 64)) w11.heap.size 0 (h1 :: h2 :: (ox ++ oy)) = W9 := ⟨_, rfl⟩; rw [hW9]; have hc9 : Blk W9 w11.heap.size 64 (ints (h1 :: h2 :: (ox ++ oy))) := (by rw [← hW9]; exact blk_new_put w11 _ [0, 0, 0, 0, 0, 0, 0, 0, 0, 0, 0, 0, 0, 0, 0, 0, 0, 0, 0, 0] _ hlen); have hb9 : Below w9.heap.size w9 W9 := (by rw [← hW9]; exact H2.out.trans ((below_new_put w11 _ [0, 0, 0, 0, 0, 0, 0, 0, 0, 0, 0, 0, 0, 0, 0, 0, 0, 0, 0, 0] _).mono H2.out.size)); clear hW9; have HIc := Lib.hid (HI9.out.below hb9); clear hb9; generalize w11.heap.size = cb at *)
              | (obtain ⟨W9, hW9⟩ : ∃ W9, putRow w11 w10.heap.size 0 (h1 :: h2 :: (ox ++ oy)) = W9 := ⟨_, rfl⟩; rw [hW9]; have hc9 : Blk W9 w10.heap.size 64 (ints (h1 :: h2 :: (ox ++ oy))) := (by rw [← hW9]; exact Blk.put_all HBM.out _ hlen); have hb9 : Below w9.heap.size w9 W9 := (by rw [← hW9]; exact below_put H2.out H1.out.size 0 _); clear hW9; have HIc := Lib.hid (HI9.out.below hb9); clear hb9; generalize w10.heap.size = cb at *)
              | (obtain ⟨W9, hW9⟩ : ∃ W9, putRow w11 w9.heap.size 0 (h1 :: h2 :: (ox ++ oy)) = W9 := ⟨_, rfl⟩; rw [hW9]; have hc9 : Blk W9 w9.heap.size 64 (ints (h1 :: h2 :: (ox ++ oy))) := (by rw [← hW9]; exact Blk.put_all HBM.out _ hlen); have hb9 : Below w9.heap.size w9 W9 := (by rw [← hW9]; exact below_put H2.out (Nat.le_refl _) 0 _); clear hW9; have HIc := Lib.hid (HI9.out.below hb9); clear hb9; generalize w9.heap.size = cb at *))
            have q1 : row? W9 cb 2 9 = some (ints ox) := by rw [hc9.row_ints 2 9 (by rw [hlen]; omega)]; simp [← x9]
            have q2 : row? W9 cb 11 9 = some (ints oy) := by rw [hc9.row_ints 11 9 (by rw [hlen]; omega)]; simp only [List.drop_succ_cons]; rw [List.drop_left' x9, List.take_of_length_le (by omega)]
            have q3 : row? W9 cb 0 20 = some (ints (h1 :: h2 :: (ox ++ oy))) := hc9.row_all hlen
            have hnq : ∀ W, (binOp .neq 39 (.agg (ints ox)) (.agg (ints oy))).run Tryz.prog W = .ok (.bool (!decide (ox = oy))) W := neq_beast ox oy x9 y9
            clear hc9
            by_cases e : ox = oy
            · have hd : decide (ox = oy) = true := by simpa using e
              rw [hd] at hnq
              rw [if_pos e] at HST
              clear e hd
              go_wp2_with fail
              go_roundw
              case rel => exact ⟨k + 1, by omega, by go_num, by rw [HST.out]; exact HIc.out⟩
              case measure => simp [intOf]; omega
            · have hd : decide (ox = oy) = false := by simpa using e
              rw [hd] at hnq
              rw [if_neg e] at HST
              have hcl : (betweenTo a b hs k).length + 1 ≤ 120 := by
                have h3 := HLK.out
                rw [HST.out, List.length_append] at h3
                have h4 := HLS.out
                simp only [List.length_cons, List.length_nil] at h3
                omega
              have HO := Lib.hid HIc.out.rowAt
              clear e hd
              go_wp2_with (at_builtin; go_loud (refine wpList_append1_at rfl _ _ 61 rfl 0 64 i0 _ 20 160 Tryz.underlying61 hi0 hz0 hz1 hz2 rfl (by decide) u9 (betweenTo a b hs k).length ((betweenTo a b hs k).flatMap cC) rfl HO.out ((h1 :: h2 :: (ox ++ oy)).map (Value.int .i64)) rfl (by rw [List.length_map]; exact hlen) (by intro u hu; obtain ⟨x, _, rfl⟩ := List.mem_map.1 hu; rfl) ?_ ?_ (Nat.zero_le _) ?_))
              case refine_1 => unfold maxLen; omega
              case refine_2 => omega
              intro v' w12 ho hg hor
              have HI12 : Hid (In (fun _ => False) w [RowC v' (betweenTo a b hs (k + 1)), RowH (.slice (some ⟨g7, 0, none⟩) hs.length c7) hs, DMap my b, DMap mx a] w12) := by
                have g1 := HIc.out.append1 ho hg hor
                rw [HST.out]
                unfold Hid RowC
                rw [List.length_append, List.flatMap_append]
                have g2 : ([(⟨(h1, h2), ox, oy⟩ : Chg)]).flatMap cC = (h1 :: h2 :: (ox ++ oy)).map (Value.int .i64) := by
                  simp only [List.flatMap_cons, List.flatMap_nil, List.append_nil]
                  unfold cC
                  rw [cL_eq ⟨x9, y9⟩]
                rw [g2]
                simp only [List.map_cons, List.map_append] at g1 ⊢
                exact g1
              clear ho hg hor q1 q2 q3
              go_wp2_with fail
              go_roundw
              case rel => exact ⟨k + 1, by omega, by go_num, HI12.out⟩
              case measure => simp [intOf]; omega
        · have hki : (hs.length : Int) ≤ k := by omega
          have HE : Hid (betweenTo a b hs k = between a b) := by
            have : k = hs.length := by omega
            rw [Hid, HBT.out, this]
          go_wp2_with fail
          go_ret2
          rw [HR.out]
          refine ⟨u9, rfl, ?_⟩
          have h1 := HI.out
          rw [HE.out] at h1
          exact (h1.swap.drop.swap.drop.swap.drop)

end Go.Proofs.YtjggdpnamakoeaaGreat
