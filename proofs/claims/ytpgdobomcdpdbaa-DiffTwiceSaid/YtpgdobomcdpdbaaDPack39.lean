/-
  Several texts in one (merged by a program of mine): DiffApply.
-/
import Derived.Test.YtpgdobomcdpdbaaDPack38
import Derived.Deep.RegionLawGrows
/-
  The contract of diff.Apply.
-/
namespace Go.Proofs.Ytpgdobomcdpdbaa
open Go.RowKit

theorem RowsIn.own {w : World} {v : Value} {rs : List RowD} (h : w.ownsRow 0 41 11 v rs.length (rs.flatMap rC)) : ∃ A c, v = .slice A rs.length c ∧ rs.length ≤ c ∧ c ≤ maxLen ∧ RowsIn w w.heap.size A rs := by
  obtain ⟨A, c, rfl, h1, h2, h3, _⟩ := own_chunks (f := rL) (fun _ => rfl) rL_len h
  exact ⟨A, c, rfl, h1, h2, h3⟩
def rowFor (m : List RowD) (h : Hd) : RowD := (h, (mget m h).getD zeroB)
def rowsTo (m : List RowD) (hs : List Hd) (k : Nat) : List RowD := (hs.take k).map (rowFor m)
theorem rowsTo_succ (m : List RowD) (hs : List Hd) (k : Nat) (h : k < hs.length) : rowsTo m hs (k + 1) = rowsTo m hs k ++ [rowFor m hs[k]] := by
  unfold rowsTo
  rw [List.take_succ_eq_append_getElem h, List.map_append]; rfl
theorem rowFor_ok {m : List RowD} (h : ∀ r ∈ m, RowOk r) (k : Hd) : RowOk (rowFor m k) := by
  unfold rowFor RowOk
  cases e : mget m k with
  | none => rfl
  | some v => exact h _ (mget_mem e)
theorem mput_rows {m : List RowD} (h : ∀ r ∈ m, RowOk r) {k : Hd} {v : List Int} (hv : v.length = 9) : ∀ r ∈ mput m k v, RowOk r := fun r hr => by
  rcases mem_mput hr with rfl | hr
  · exact hv
  · exact h _ hr.1

set_option maxHeartbeats 8000000 in
set_option maxRecDepth 100000 in
theorem apply_any (A A' : Option Addr) (c c' : Nat) (l : List RowD) (cs : List Chg) (w : World) (ha : RowsIn w w.heap.size A l) (hb : ChgsIn w w.heap.size A' cs) (hoa : ∀ r ∈ l, RowOk r) (hob : ∀ r ∈ cs, ChgOk r) (hla : l.length ≤ maxLen) (hlb : cs.length ≤ maxLen) :
    Calls Try.prog 38 #[.slice A l.length c, .slice A' cs.length c'] w fun e w' => ∃ v, e = .returned (.tuple #[v, .int .i64 (applyR l cs).2]) ∧ In (fun _ => False) w [RowR v (applyR l cs).1] w' := by
  have HA := Lib.hid ha
  have HB := Lib.hid hb
  have HOA := Lib.hid hoa
  have HOB := Lib.hid hob
  have HLA := Lib.hid hla
  have hlb' : (cs.length : Int) ≤ 9223372036854775807 := by unfold maxLen at hlb; omega
  clear ha hb hoa hob hla hlb
  obtain ⟨i0, hi0, hz0, hz1, hz2⟩ := info_parts row_parts
  go_enter Try.func38, Try.ntmps38
  go_wp2_with fail
  refine (may_any A c l w HA.out HOA.out HLA.out).mono ?_
  rintro e w1 ⟨rfl, hb1⟩
  have HB1 := Lib.hid hb1
  clear hb1
  cases hma : mayD l with
  | false =>
    have HR : Hid (applyR l cs = ([], 4)) := by unfold Hid applyR; rw [hma]; rfl
    clear hma
    go_wp2_with fail
    go_ret2
    rw [HR.out]
    exact ⟨_, rfl, (In.nilRow (In.nil w _) _ _).below HB1.out⟩
  | true =>
    have HMA := Lib.hid hma
    clear hma
    by_cases hlen : 120 < cs.length
    · have hl2 : (120 : Int) < cs.length := by omega
      have HR : Hid (applyR l cs = ([], 2)) := by unfold Hid applyR; rw [if_neg (by simp [HMA.out]), if_pos hlen]
      clear hlen
      go_wp2_with fail
      go_ret2
      rw [HR.out]
      exact ⟨_, rfl, (In.nilRow (In.nil w _) _ _).below HB1.out⟩
    · have hl2 : (cs.length : Int) ≤ 120 := by omega
      have HR : Hid (applyR l cs = match applyL l cs with
          | .error e => ([], e)
          | .ok m => if mayD (rowsOf m) then (rowsOf m, 0) else ([], 4)) := by
        unfold Hid applyR
        rw [if_neg (by simp [HMA.out]), if_neg hlen]
        cases applyL l cs <;> rfl
      have HL60 : Hid (l.length ≤ 60) := (mayD_rows HMA.out).2.2
      clear hlen
      go_wp2_with fail
      refine (dof_any A c l w1 (HA.out.below HB1.out |>.more HB1.out.size) HOA.out HLA.out).mono ?_
      rintro e w3 ⟨mx, rfl, hI3⟩
      rw [ofD_eq HMA.out] at hI3
      have HI3 : Hid (In (fun _ => False) w [DMap mx l] w3) := (In.nil w _).below HB1.out |>.new (A := DMap mx l) hI3.below0 hI3.fresh
      clear hI3 HB1
      go_wp2_with fail
      go_loopw [22] (fun i w' => ∃ (k : Nat) (m : List RowD), k ≤ cs.length ∧ i = .int .i64 k ∧ applyL l cs = applyL m (cs.drop k) ∧ (∀ r ∈ m, RowOk r) ∧ m.length ≤ 60 + k ∧ In (fun _ => False) w [DMap mx m] w') (fun i _ => cs.length - (intOf i).toNat)
      case atStart => exact ⟨0, l, by omega, rfl, rfl, HOA.out, by have := HL60.out; omega, HI3.out⟩
      case round =>
        clear HI3
        obtain ⟨k, m, hk, rfl, hap, hmo, hml, hI⟩ := hrel
        have HAP := Lib.hid hap
        have HMO := Lib.hid hmo
        have HML := Lib.hid hml
        have HI := Lib.hid hI
        clear hap hmo hml hI
        by_cases hlt : k < cs.length
        · have hki : (k : Int) < cs.length := by omega
          obtain ⟨b, o, hA, hbl, hrow⟩ := ChgsIn.at_ (Chunks.below HB.out HI.out.below0) hlt
          subst hA
          have HST : Hid (applyL m (cs.drop k) = match applyStep m cs[k] with | .error e => .error e | .ok m' => applyL m' (cs.drop (k + 1))) := by
            unfold Hid
            rw [List.drop_eq_getElem_cons hlt]
            rfl
          have hco := HOB.out _ (List.getElem_mem hlt)
          generalize hrk : cs[k] = x at *
          clear hrk
          have hrl := cL_len x
          have HRE := Lib.hid (cL_eq hco)
          obtain ⟨⟨s, g⟩, ox, oy⟩ := x
          have x9 : ox.length = 9 := hco.1
          have y9 : oy.length = 9 := hco.2
          clear hco
          simp only at HRE
          rw [HRE.out] at hrl hrow
          have HDG : Hid ((dget m (s, g)).length = 9) := dget_len HMO.out _
          go_upto_region 10 with (fail)
          refine wp_abs (In (fun _ => False) w [Box wr.heap.size 72 (ints (s :: g :: (ox ++ oy))), DMap mx m]) (HI.out.struct 72 [0, 0, 0, 0, 0, 0, 0, 0, 0, 0, 0, 0, 0, 0, 0, 0, 0, 0, 0, 0] _ hrl) ?_
          generalize wr.heap.size = cb
          intro w4 hI4
          have q0 : row? w4 cb 0 2 = some (ints [s, g]) := hI4.blk.row_ints 0 2 (by rw [hrl]; omega)
          have q1 : row? w4 cb 2 9 = some (ints ox) := by rw [hI4.blk.row_ints 2 9 (by rw [hrl]; omega)]; simp [← x9]
          have q2 : row? w4 cb 11 9 = some (ints oy) := by rw [hI4.blk.row_ints 11 9 (by rw [hrl]; omega)]; simp only [List.drop_succ_cons]; rw [List.drop_left' x9, List.take_of_length_le (by omega)]
          have HI4 := Lib.hid hI4
          clear hI4 HI hrow
          have hnq : ∀ W, (binOp .eql 39 (.agg (ints ox)) (.agg (ints oy))).run Try.prog W = .ok (.bool (decide (ox = oy))) W := eql_beast ox oy x9 y9
          by_cases e : ox = oy
          · have hd : decide (ox = oy) = true := by simpa using e
            have HE : Hid (applyR l cs = ([], 4)) := by
              have h1 : applyStep m ⟨(s, g), ox, oy⟩ = .error 4 := by unfold applyStep; rw [if_pos e]
              rw [Hid, HR.out, HAP.out, HST.out, h1]
            rw [hd] at hnq
            clear e hd
            go_wp2_with fail
            go_ret2
            rw [HE.out]
            exact ⟨_, rfl, (In.nilRow (In.nil w _) _ _).below HI4.out.below0⟩
          · have hd : decide (ox = oy) = false := by simpa using e
            rw [hd] at hnq
            have HNE := Lib.hid e
            clear e hd
            go_upto_region 12 with (fail)
            clear hnq
            have HG : Hid (∀ n : After w4, Calls Try.prog 67 #[.map (some mx), .agg (ints [s, g])] n.w fun e w' => e = .returned (.agg (ints (dget m (s, g)))) ∧ Below n.w.heap.size n.w w') := fun n => get_any (HI4.out.swap.mapAt.after n.below) HMO.out (s, g)
            have c0 : ∀ n : After w4, row? n.w cb 0 2 = some (ints [s, g]) := fun n => row_after n.below q0
            have c1 : ∀ n : After w4, row? n.w cb 2 9 = some (ints ox) := fun n => row_after n.below q1
            have hnq : ∀ W, (binOp .neq 39 (.agg (ints (dget m (s, g)))) (.agg (ints ox))).run Try.prog W = .ok (.bool (!decide (dget m (s, g) = ox))) W := neq_beast _ ox HDG.out x9
            have HQ0 := Lib.hid q0
            have HQ2 := Lib.hid q2
            clear q0 q1 q2
            by_cases e : dget m (s, g) = ox
            · have hd : decide (dget m (s, g) = ox) = true := by simpa using e
              rw [hd] at hnq
              have HGE2 := Lib.hid e
              have HAS : Hid (applyStep m ⟨(s, g), ox, oy⟩ = if oy = noneB then .ok (mdel m (s, g)) else .ok (mput m (s, g) oy)) := by
                unfold Hid applyStep
                rw [if_neg HNE.out, if_neg (fun h => h (HGE2.out))]
              clear e hd HGE2
              generalize dget m (s, g) = dv at *
              refine wp_region_after (by kernel_rfl) (by kernel_rfl) ?_
              repeat (go_big_quiet_step (first
                | (go_at_call 67; exact quiet_after (HG.out _))))
              refine wpQuiet_nil ?_
              rintro _ ⟨n, rfl⟩
              have HI5 := Lib.hid (HI4.out.below n.below)
              have HQ0 := Lib.hid (row_after n.below HQ0.out)
              have HQ2 := Lib.hid (row_after n.below HQ2.out)
              clear c0 c1 hnq HG HI4
              generalize n.w = w5 at *
              go_upto_region 14 with (fail)
              have c2 : ∀ n : After w5, row? n.w cb 11 9 = some (ints oy) := fun n => row_after n.below HQ2.out
              have hnq : ∀ W, (binOp .eql 39 (.agg (ints oy)) (.agg (ints noneB))).run Try.prog W = .ok (.bool (decide (oy = noneB))) W := eql_beast oy noneB y9 rfl
              by_cases e2 : oy = noneB
              · have hd : decide (oy = noneB) = true := by simpa using e2
                rw [hd] at hnq
                rw [if_pos e2] at HAS
                clear e2 hd
                refine wp_region_after (by kernel_rfl) (by kernel_rfl) ?_
                repeat (go_big_quiet_step (first
                  | (go_at_call 68; exact quiet_after (dnone_any _))))
                refine wpQuiet_nil ?_
                rintro _ ⟨n2, rfl⟩
                have HI6 := Lib.hid (HI5.out.below n2.below)
                have q0 := row_after n2.below HQ0.out
                clear c2 hnq HI5
                generalize n2.w = w6 at *
                go_wp2_with (at_delete; go_loud (refine wpList_drop keyHd rfl _ _ 118 39 rfl Try.underlying118 mx _ rfl HI6.out.swap.mapAt (s, g) rfl trivial ?_))
                intro w7 h1 h2 h3
                have HI7 := Lib.hid (In.mapped HI6.out.swap h1 h2)
                clear h1 h2 h3 q0
                go_wp2_with fail
                go_roundw
                case rel => exact ⟨k + 1, mdel m (s, g), by omega, by go_num, by rw [HAP.out, HST.out, HAS.out], fun r hr => HMO.out r (mem_mdel.1 hr).1, by have := mdel_len m (s, g); have := HML.out; omega, HI7.out.swap.drop⟩
                case measure => simp [intOf]; omega
              · have hd : decide (oy = noneB) = false := by simpa using e2
                rw [hd] at hnq
                rw [if_neg e2] at HAS
                clear e2 hd
                refine wp_region_after (by kernel_rfl) (by kernel_rfl) ?_
                repeat (go_big_quiet_step (first
                  | (go_at_call 68; exact quiet_after (dnone_any _))))
                refine wpQuiet_nil ?_
                rintro _ ⟨n2, rfl⟩
                have HI6 := Lib.hid (HI5.out.below n2.below)
                have q0 := row_after n2.below HQ0.out
                have q2 := row_after n2.below HQ2.out
                clear c2 hnq HI5
                generalize n2.w = w6 at *
                go_wp2_with (at_mapUpdate; go_loud (refine wpList_store keyHd rfl _ _ _ 118 39 rfl Try.underlying118 mx _ rfl HI6.out.swap.mapAt (s, g) rfl trivial oy rfl ?_))
                intro w7 h1 h2 h3
                have HI7 := Lib.hid (In.mapped HI6.out.swap h1 h2)
                clear h1 h2 h3 q0 q2
                go_wp2_with fail
                go_roundw
                case rel => exact ⟨k + 1, mput m (s, g) oy, by omega, by go_num, by rw [HAP.out, HST.out, HAS.out], mput_rows HMO.out y9, by have := mput_len m (s, g) oy; have := HML.out; omega, HI7.out.swap.drop⟩
                case measure => simp [intOf]; omega
            · have hd : decide (dget m (s, g) = ox) = false := by simpa using e
              rw [hd] at hnq
              have HE : Hid (applyR l cs = ([], 5)) := by
                have h1 : applyStep m ⟨(s, g), ox, oy⟩ = .error 5 := by unfold applyStep; rw [if_neg HNE.out, if_pos e]
                rw [Hid, HR.out, HAP.out, HST.out, h1]
              clear e hd
              generalize dget m (s, g) = dv at *
              refine wp_region_after (by kernel_rfl) (by kernel_rfl) ?_
              repeat (go_big_quiet_step (first
                | (go_at_call 67; exact quiet_after (HG.out _))))
              refine wpQuiet_nil ?_
              rintro _ ⟨n, rfl⟩
              have HI5 := Lib.hid (HI4.out.below n.below)
              go_wp2_with fail
              go_ret2
              rw [HE.out]
              exact ⟨_, rfl, (In.nilRow (In.nil w _) _ _).below HI5.out.below0⟩
        · have hki : (cs.length : Int) ≤ k := by omega
          have HAL : Hid (applyL l cs = .ok m) := by
            rw [Hid, HAP.out, List.drop_eq_nil_of_le (by omega)]; rfl
          have HRE : Hid (applyR l cs = if mayD (rowsOf m) then (rowsOf m, 0) else ([], 4)) := by rw [Hid, HR.out, HAL.out]
          have HML2 : Hid (m.length ≤ 180) := by have := HML.out; unfold Hid; omega
          clear HAP HAL HR HML
          go_wp2_with fail
          refine (mkeys_any mx wr).mono ?_
          rintro e w7 ⟨rfl, rfl⟩
          have HI7 : Hid (In (fun _ => False) w [Box wr.heap.size 118 #[.map (some mx)], DMap mx m] (wr.alloc (.cells #[.map (some mx)] 118))) := HI.out.alloc _ _
          clear HI
          generalize (wr.alloc (.cells #[.map (some mx)] 118)) = w7 at *
          generalize wr.heap.size = kb at *
          go_wp2_with fail
          refine (sortedKeys_any HI7.out.blk HI7.out.swap.mapAt (by have := HML2.out; omega)).mono ?_
          rintro e w8 ⟨hv, rfl, hI8⟩
          have HI8 : Hid (In (fun _ => False) w [RowH hv (sortedKeys m), Box kb 118 #[.map (some mx)], DMap mx m] w8) := HI7.out.new (A := RowH hv (sortedKeys m)) hI8.below0 hI8.fresh
          have HLS : Hid ((sortedKeys m).length ≤ 180) := by rw [Hid, sorted_len]; exact HML2.out
          have HBT : Hid (rowsOf m = rowsTo m (sortedKeys m) (sortedKeys m).length) := by
            unfold Hid rowsTo
            rw [List.take_length]; rfl
          clear hI8 HI7
          generalize sortedKeys m = hs at *
          obtain ⟨A7, c7, rfl, hc1, hc2, hrow⟩ := rowH_at HI8.out.rowAt
          have hl120 : (hs.length : Int) ≤ 180 := by have := HLS.out; omega
          have HI8 : Hid (In (fun _ => False) w [RowR (.slice none 0 0) [], RowH (.slice A7 hs.length c7) hs, DMap mx m] w8) := HI8.out.swap.drop.nilRow 41 11
          clear hrow hc1 hc2
          go_wp2_with fail
          go_loopw [9, 58] (fun out i w' => ∃ k : Nat, k ≤ hs.length ∧ i = .int .i64 k ∧ In (fun _ => False) w [RowR out (rowsTo m hs k), RowH (.slice A7 hs.length c7) hs, DMap mx m] w') (fun _ i _ => hs.length - (intOf i).toNat)
          case atStart => exact ⟨0, by omega, rfl, HI8.out⟩
          case round =>
            clear HI8
            obtain ⟨k, hk, rfl, hI⟩ := hrel
            have HI := Lib.hid hI
            clear hI
            by_cases hlt : k < hs.length
            · have hki : (k : Int) < hs.length := by omega
              obtain ⟨A7', c7', e7, _, _, hrow⟩ := rowH_at HI.out.swap.rowAt
              obtain ⟨g7, hA, hrw⟩ := hrow k hlt
              injection e7 with e1 e2 e3
              subst e1
              subst hA
              have HST := Lib.hid (rowsTo_succ m hs k hlt)
              generalize hh : hs[k] = h at *
              clear hh hrow e2 e3
              obtain ⟨h1, h2⟩ := h
              go_upto_region 21 with (fail)
              refine wp_abs (In (fun _ => False) w [Box wr.heap.size 36 (ints [h1, h2]), RowR u9 (rowsTo m hs k), RowH (.slice (some ⟨g7, 0, none⟩) hs.length c7) hs, DMap mx m]) (HI.out.struct 36 [0, 0] [h1, h2] rfl) ?_
              generalize wr.heap.size = hb
              intro w9 hI9
              have s1 : row? w9 hb 0 2 = some (ints [h1, h2]) := hI9.blk.row_all rfl
              have HRO : Hid (RowOk (rowFor m (h1, h2))) := rowFor_ok HMO.out _
              have hl1 : (Instr.lookup 118 (.map (some mx)) (.agg (ints [h1, h2])) false).run Try.prog w9.drew = .ok (.agg (ints ((mget m (h1, h2)).getD zeroB))) w9.drew := by
                have := (hI9.fourth.mapAt.after (Below.refl _ _).drew).look keyHd Try.underlying118 (zero_beast w9.drew) (x := (h1, h2)) trivial false
                rw [show (.agg (ints [h1, h2]) : Value) = hdV (h1, h2) from rfl, this]
                cases mget m (h1, h2) <;> rfl
              have HRF : Hid (rowFor m (h1, h2) = ((h1, h2), (mget m (h1, h2)).getD zeroB)) := rfl
              have HI9 := Lib.hid hI9.drop
              clear hI9 hrw HI
              have HCL : Hid (rC (rowFor m (h1, h2)) = (h1 :: h2 :: (mget m (h1, h2)).getD zeroB).map (Value.int .i64)) := by unfold Hid rC; rw [rL_eq HRO.out, HRF.out]
              have v9 : ((mget m (h1, h2)).getD zeroB).length = 9 := HRO.out
              generalize (mget m (h1, h2)).getD zeroB = bb at *
              have hll : (rowsTo m hs k).length + 1 ≤ 181 := by unfold rowsTo; rw [List.length_map, List.length_take]; have := HLS.out; omega
              have HO : Hid (w9.drew.ownsRow 0 41 11 u9 (rowsTo m hs k).length ((rowsTo m hs k).flatMap rC)) := HI9.out.drew.rowAt
              go_region_law (refine step_append1 (w := w9.drew) rfl (.tmp 62) (.tmp 68) 25 rfl 0 41 i0 _ 11 88 Try.underlying25 hi0 hz0 hz1 hz2 rfl (by decide) u9 (rowsTo m hs k).length ((rowsTo m hs k).flatMap rC) (by simp [Act.eval, Act.put]) HO.out ((h1 :: h2 :: bb).map (Value.int .i64)) (by simp [Act.eval, Act.put]) (by rw [List.length_map]; simp [v9]) (by intro u hu; obtain ⟨x, _, rfl⟩ := List.mem_map.1 hu; rfl) (by unfold maxLen; omega) (by omega) (Nat.zero_le _) ?_; intro v' w12 ho hg hor; have HO12 := Lib.hid ho; have HG12 := Lib.hid hg; have HOR := Lib.hid hor; clear ho hg hor)
              all_goals
                have HI12 : Hid (In (fun _ => False) w [RowR v' (rowsTo m hs (k + 1)), RowH (.slice (some ⟨g7, 0, none⟩) hs.length c7) hs, DMap mx m] w12) := by
                  have g1 := HI9.out.drew.append1 HO12.out HG12.out HOR.out
                  rw [HST.out]
                  unfold Hid RowR
                  rw [List.length_append, List.flatMap_append]
                  have g2 : [rowFor m (h1, h2)].flatMap rC = (h1 :: h2 :: bb).map (Value.int .i64) := by
                    simp only [List.flatMap_cons, List.flatMap_nil, List.append_nil]
                    exact HCL.out
                  rw [g2]
                  exact g1
                go_wp2_with fail
                go_roundw
                case rel => exact ⟨k + 1, by omega, by go_num, HI12.out⟩
                case measure => simp [intOf]; omega
            · have hki : (hs.length : Int) ≤ k := by omega
              have HE : Hid (rowsTo m hs k = rowsOf m) := by
                have : k = hs.length := by omega
                rw [Hid, HBT.out, this]
              have HI10 : Hid (In (fun _ => False) w [RowR u9 (rowsOf m)] wr) := by
                have g1 := HI.out
                rw [HE.out] at g1
                exact g1.swap.drop.swap.drop
              obtain ⟨A9, c9, rfl, hc1, hc2, hri⟩ := RowsIn.own HI10.out.rowAt
              have HRI := Lib.hid hri
              have HRL : Hid ((rowsOf m).length ≤ maxLen) := by unfold Hid; omega
              have HRK : Hid (∀ r ∈ rowsOf m, RowOk r) := by
                rw [Hid, HBT.out]
                intro r hr
                obtain ⟨x, _, rfl⟩ := List.mem_map.1 hr
                exact rowFor_ok HMO.out x
              clear hri hc1 hc2 HI
              go_wp2_with fail
              refine (may_any A9 c9 (rowsOf m) wr HRI.out HRK.out HRL.out).mono ?_
              rintro e w13 ⟨rfl, hb13⟩
              have HI13 := Lib.hid (HI10.out.below hb13)
              clear hb13
              cases hmr : mayD (rowsOf m) with
              | false =>
                rw [hmr] at HRE
                clear hmr
                go_wp2_with fail
                go_ret2
                rw [HRE.out]
                exact ⟨_, rfl, (In.nilRow (In.nil w _) _ _).below HI13.out.below0⟩
              | true =>
                rw [hmr] at HRE
                clear hmr
                go_wp2_with fail
                go_ret2
                rw [HRE.out]
                exact ⟨_, rfl, HI13.out⟩

end Go.Proofs.Ytpgdobomcdpdbaa
