/-
  Several texts in one (merged by a program of mine): ZooKill, ZooDo, ZooDone, ZooLooks, WorldKills, WorldLoad, WorldLoadAny, ZooState, ZooSame.
-/
import Derived.Test.YtpgcghnlepnoiaaGreatDoorTP31
set_option linter.unusedVariables false
set_option linter.unusedSimpArgs false
set_option linter.unusedSectionVars false
/-
  The contract of zoo.kill.
-/
namespace Go.Proofs.YtpgcghnlepnoiaaGreatDoor
open Go.RowKit

theorem kills_succ (z : ZS) (hs : List Hd) (k : Nat) (h : k < hs.length) : kills z (hs.take (k + 1)) = kill1 (kills z (hs.take k)) hs[k] := by
  unfold kills
  rw [List.take_succ_eq_append_getElem h, List.foldl_append]; rfl
section
variable {G : Nat → Prop} {w0 w : World} {l : List Assn} {p : Nat} {z : ZS}
/-- the world of a zoo, and its family -/
theorem In.killW1 {wp fp : Nat} {m : Fam} {z : ZS} {x : Hd} (hz : ZOk z) (hm : bondsOf m = z.B) (hf : FamOk m) (h : In G w0 (FamA fp (goneR m x) :: WorldA wp (killW z.ls z.f x).1.1 (killW z.ls z.f x).1.2 :: zBox p wp fp :: l) w) : In G w0 (ZooA p (kill1 z x) :: l) w := by
  refine In.shutZoo (z := kill1 z x) (m := goneR m x) ?_ (h.third.perm ((List.Perm.swap _ _ _).cons _))
  rw [bonds_gone hf.nodup, hm]; rfl
set_option maxHeartbeats 2000000 in
set_option maxRecDepth 100000 in
theorem zkill_in (h : In G w0 (ZooA p z :: l) w) (hk : ZOk z) (x : Hd) :
    Calls Tryz.prog 57 #[ptr p, hdV x] w fun e w' => e = .returned (.int .i64 (killZ z x).2) ∧ In G w0 (ZooA p (killZ z x).1 :: l) w' := by
  have H0 := Lib.hid h
  have HK := Lib.hid hk
  clear h hk
  obtain ⟨i0, hi0, hz0, hz1, hz2⟩ := info_parts handle_partsF
  obtain ⟨x1, x2⟩ := x
  rw [hdV_eq]
  go_enter Tryz.func57, Tryz.ntmps57
  go_upto_region 1 with (fail)
  refine wp_abs (In G w0 (Box w.heap.size 46 (ints [x1, x2]) :: ZooA p z :: l)) (H0.out.alloc 46 (ints [x1, x2])) ?_
  generalize w.heap.size = cb
  intro w3 hI3
  have q2 : ∀ n : After w3, row? n.w cb 0 2 = some (ints [x1, x2]) := fun n => (hI3.blk.after n.below).row_all rfl
  obtain ⟨wp, fp, m, hm, hf, ha, hI4⟩ := hI3.swap.openZoo
  have q3 : ∀ n : After w3, n.w.cell? ⟨p, 0, none⟩ = some (ptr wp) := fun n => (hI4.blk.after n.below).cell 0
  obtain ⟨sp, F, q4, hS⟩ := hI4.swap.slotsOf
  have HL : Hid (∀ n : After w3, Calls Tryz.prog 73 #[.pointer (some ⟨sp, 0, none⟩), .agg (ints [x1, x2])] n.w fun e w' => e = .returned (.bool (z.live (x1, x2))) ∧ Below n.w.heap.size n.w w') := fun n => live_any sp z.ls F x1 x2 n.w (hS n)
  have HI3 := Lib.hid hI3
  clear hI3 hI4 hm hf ha hS H0
  cases hlv : z.live (x1, x2) with
  | false =>
    have HR : Hid (killZ z (x1, x2) = (z, 7)) := by unfold Hid killZ; rw [hlv]; rfl
    rw [hlv] at HL
    refine wp_region_after (by kernel_rfl) (by kernel_rfl) ?_
    repeat (go_big_quiet_step ((go_at_call 73; exact quiet_after (HL.out _))))
    refine wpQuiet_nil ?_
    rintro _ ⟨n, rfl⟩
    have HI5 := Lib.hid (HI3.out.below n.below)
    go_wp2_with fail
    go_ret
    rw [HR.out]
    exact ⟨rfl, HI5.out.drop⟩
  | true =>
    have HR : Hid (killZ z (x1, x2) = (kills z (killL z (x1, x2)), 0)) := by unfold Hid killZ; rw [if_pos hlv]
    rw [hlv] at HL
    clear hlv
    refine wp_region_after (by kernel_rfl) (by kernel_rfl) ?_
    repeat (go_big_quiet_step ((go_at_call 73; exact quiet_after (HL.out _))))
    refine wpQuiet_nil ?_
    rintro _ ⟨n, rfl⟩
    have hI5 := HI3.out.below n.below
    obtain ⟨wp, fp, m, hm, hf, ha, hI6⟩ := hI5.swap.openZoo
    generalize n.w = w5 at *
    have k1 : row? w5 cb 0 2 = some (ints [x1, x2]) := hI5.blk.row_all rfl
    have k2 : w5.cell? ⟨p, 1, none⟩ = some (ptr fp) := hI6.blk.cell 1
    have HI6 : Hid (In G w0 (FamA fp m :: zBox p wp fp :: WorldA wp z.ls z.f :: Box cb 46 (ints [x1, x2]) :: l) w5) := hI6.third
    have hml : m.length ≤ 60 := by rw [← bonds_len m, hm]; exact HK.out.len
    have HU : Hid (under m (x1, x2) = under z.B (x1, x2)) := Alike.under hf HK.out.fam ha _
    have HM := Lib.hid hm
    have HF := Lib.hid hf
    clear hI5 hI6 hm hf ha q2 q3 q4 HL HI3
    go_upto_region 3 with (fail)
    go_still_tail 5, (by kernel_rfl)
    change wpList _ _ _ _ _ w5.drew
    have HI7 := Lib.hid HI6.out.drew
    clear HI6 k1 k2
    generalize w5.drew = w6 at *
    go_wp2_with fail
    refine (funder_in HI7.out (by omega) (x1, x2)).mono ?_
    rintro e w7 ⟨uv, rfl, hI8⟩
    have hul := under_len HF.out.nodup HF.out.acyc (x1, x2)
    have HI8 := Lib.hid hI8
    clear hI8 HI7
    go_wp2_with fail
    refine (reverseH_in HI8.out (by omega)).mono ?_
    rintro e w8 ⟨rfl, hI9⟩
    rw [HU.out] at hI9 hul
    have hrl : (under z.B (x1, x2)).reverse.length = (under z.B (x1, x2)).length := List.length_reverse
    have HO := Lib.hid hI9.rowAt
    have k1 : row? w8 cb 0 2 = some (ints [x1, x2]) := (hI9.nth 4 (by simp)).blk.row_all rfl
    have HI9 := Lib.hid hI9
    clear hI9 HI8 HU
    generalize hus : (under z.B (x1, x2)).reverse = us at *
    have husl : us.length ≤ 60 := by omega
    clear hrl
    have HKL : Hid (killL z (x1, x2) = us ++ [(x1, x2)]) := by unfold Hid killL; rw [hus]
    clear hus
    go_wp2_with (at_builtin; go_loud (refine wpList_append1_at rfl _ _ 119 rfl 0 46 i0 _ 2 16 Tryz.underlying119 hi0 hz0 hz1 hz2 rfl (by decide) uv us.length (us.flatMap hC) rfl HO.out [.int .i64 x1, .int .i64 x2] rfl rfl (by simp [Value.oneCell']) ?_ ?_ (Nat.zero_le _) ?_))
    case refine_1 => unfold maxLen; omega
    case refine_2 => omega
    intro v' w9 ho hg hor
    have hI10 := In.appendH (x := (x1, x2)) HI9.out ho hg hor
    rw [← HKL.out] at hI10
    have hkl : (killL z (x1, x2)).length ≤ 61 := by rw [HKL.out, List.length_append, List.length_singleton]; omega
    obtain ⟨A, c, rfl, hc1, hc2, _⟩ := rowH_at hI10.rowAt
    have hI11 : In G w0 (ZooA p z :: RowH (.slice A (killL z (x1, x2)).length c) (killL z (x1, x2)) :: Box cb 46 (ints [x1, x2]) :: l) w9 := In.shutZoo HM.out (hI10.perm (by
      refine List.Perm.trans (List.Perm.swap _ _ _) ?_
      refine List.Perm.trans ((List.Perm.swap _ _ _).cons _) ?_
      refine List.Perm.trans (List.Perm.swap _ _ _) ?_
      refine List.Perm.cons _ ?_
      refine List.Perm.trans ((List.Perm.swap _ _ _).cons _) ?_
      exact (List.Perm.swap _ _ _)))
    have HI11 := Lib.hid hI11
    clear ho hg hor hI10 hI11 HI9 HO k1 hul HM HF hml
    generalize hks : killL z (x1, x2) = ks at *
    clear hks HKL
    go_wp2_with fail
    go_loopw [31] (fun i w' => ∃ k : Nat, k ≤ ks.length ∧ i = .int .i64 k ∧ ZOk (kills z (ks.take k)) ∧ In G w0 (ZooA p (kills z (ks.take k)) :: RowH (.slice A ks.length c) ks :: Box cb 46 (ints [x1, x2]) :: l) w') (fun i _ => ks.length - (intOf i).toNat)
    case atStart => exact ⟨0, Nat.zero_le _, rfl, HK.out, HI11.out⟩
    case round =>
      clear HI11
      obtain ⟨k, hk, rfl, hok, hI⟩ := hrel
      by_cases hlt : k < ks.length
      · have hki : (k : Int) < ks.length := by omega
        obtain ⟨A', c', e0, _, hkc, hrow⟩ := rowH_at hI.swap.rowAt
        injection e0 with e1 e2 e3
        subst e1; subst e3
        obtain ⟨g, rfl, q1⟩ := hrow k hlt
        have HS := Lib.hid (kills_succ z ks k hlt)
        have hkc' : (ks.length : Int) ≤ c := by omega
        have HI := Lib.hid hI
        have HOK := Lib.hid hok
        clear hrow e2 hI hok
        generalize ks[k] = y at *
        obtain ⟨y1, y2⟩ := y
        generalize kills z (ks.take k) = zk at *
        go_upto_region 8 with (fail)
        refine wp_abs (In G w0 (Box wr.heap.size 46 (ints [y1, y2]) :: ZooA p zk :: RowH (.slice (some ⟨g, 0, none⟩) ks.length c) ks :: Box cb 46 (ints [x1, x2]) :: l)) (HI.out.struct 46 [0, 0] [y1, y2] rfl) ?_
        generalize wr.heap.size = yb
        intro w3 hI3
        obtain ⟨wp, fp, m, hm, hf, ha, hI4⟩ := hI3.swap.openZoo
        have k1 : row? w3 yb 0 2 = some (ints [y1, y2]) := hI3.blk.row_all rfl
        have k2 : w3.cell? ⟨p, 0, none⟩ = some (ptr wp) := hI4.blk.cell 0
        have HM := Lib.hid hm
        have HF := Lib.hid hf
        have HI4 := Lib.hid hI4.swap
        clear hI3 hI4 hm hf ha HI q1
        go_still_tail 5, (by kernel_rfl)
        change wpList _ _ _ _ _ w3.drew
        have HI5 := Lib.hid HI4.out.drew
        clear HI4 k1 k2
        generalize w3.drew = w4 at *
        go_wp2_with fail
        refine (kill_in HI5.out HOK.out.w y1 y2).mono ?_
        rintro e w5 ⟨rfl, hI6⟩
        have k1 : row? w5 yb 0 2 = some (ints [y1, y2]) := (hI6.nth 3 (by simp)).blk.row_all rfl
        have k2 : w5.cell? ⟨p, 1, none⟩ = some (ptr fp) := hI6.swap.blk.cell 1
        have HI6 := Lib.hid hI6.third
        clear hI6 HI5
        go_upto_region 9 with (fail)
        go_still_tail 5, (by kernel_rfl)
        change wpList _ _ _ _ _ w5.drew
        have HI7 := Lib.hid HI6.out.drew
        clear HI6 k1 k2
        generalize w5.drew = w6 at *
        go_wp2_with fail
        refine (fgone_in HI7.out (y1, y2)).mono ?_
        rintro e w7 ⟨rfl, hI8⟩
        have hI9 := In.killW1 HOK.out HM.out HF.out hI8
        rw [← HS.out] at hI9
        have HI9 := Lib.hid hI9
        have HOK2 := Lib.hid (HOK.out.kill1 (y1, y2))
        rw [← HS.out] at HOK2
        clear hI8 hI9 HI7
        go_wp2_with fail
        go_roundw
        case rel => exact ⟨k + 1, by omega, by go_num, HOK2.out, HI9.out.swap.drop⟩
        case measure => simp [intOf]; omega
      · have : k = ks.length := by omega
        subst this
        have HI := Lib.hid hI
        rw [List.take_length] at HI
        clear hI hok
        go_wp2_with fail
        go_ret
        rw [HR.out]
        exact ⟨rfl, HI.out.swap.drop.swap.drop⟩
end

end Go.Proofs.YtpgcghnlepnoiaaGreatDoor

/-
  The contract of zoo.Do.
-/
namespace Go.Proofs.YtpgcghnlepnoiaaGreatDoor
open Go.RowKit

theorem row_far {w : World} {g g' o o' n : Nat} {x : Array Value} {xs : List Int} (hne : g ≠ g') (h : row? w g o n = some x) : row? (putRow w g' o' xs) g o n = some x := by
  unfold row? at *
  rw [putRow_other w g' o' xs g hne]; exact h
theorem cell_far {w : World} {g g' o o' : Nat} {x : Value} {xs : List Int} (hne : g ≠ g') (h : w.cell? ⟨g, o, none⟩ = some x) : (putRow w g' o' xs).cell? ⟨g, o, none⟩ = some x := by
  unfold World.cell? at *
  simp only [putRow_other w g' o' xs g hne]; exact h
theorem fits_again {w : World} {g o n o' : Nat} {ys : List Int} (h : fits w g o n = true) (h' : fits w g o' ys.length = true) : fits (putRow w g o' ys) g o n = true := by
  unfold fits at *
  split at h
  · rename_i cs t hg
    rw [hg] at h'
    simp only [decide_eq_true_eq] at h h'
    simp [putRow, Array.getElem?_modify, hg]
    omega
  · cases h
theorem doZ_1 (z : ZS) (o : OpM) (h : o.d = 1) : doZ z o = (⟨(spawnW z.ls z.f o.b).1.1, (spawnW z.ls z.f o.b).1.2, z.B⟩, (spawnW z.ls z.f o.b).2.1, (spawnW z.ls z.f o.b).2.2) := by unfold doZ; rw [if_pos h]
theorem doZ_2 (z : ZS) (o : OpM) (h : o.d = 2) : doZ z o = ((killZ z o.a).1, (0, 0), (killZ z o.a).2) := by
  unfold doZ; rw [if_neg (by omega), if_pos h]
theorem doZ_3 (z : ZS) (o : OpM) (h : o.d = 3) : doZ z o = (⟨z.ls, (putW z.ls z.f o.a o.k o.n).1, z.B⟩, (0, 0), (putW z.ls z.f o.a o.k o.n).2) := by
  unfold doZ; rw [if_neg (by omega), if_neg (by omega), if_pos h]
theorem doZ_4 (z : ZS) (o : OpM) (h : o.d = 4) : doZ z o = (⟨z.ls, (dropW z.ls z.f o.a o.k).1, z.B⟩, (0, 0), (dropW z.ls z.f o.a o.k).2) := by
  unfold doZ; rw [if_neg (by omega), if_neg (by omega), if_neg (by omega), if_pos h]
theorem doZ_5 (z : ZS) (o : OpM) (h : o.d = 5) : doZ z o = ((adoptZ z o.a o.t).1, (0, 0), (adoptZ z o.a o.t).2) := by
  unfold doZ; rw [if_neg (by omega), if_neg (by omega), if_neg (by omega), if_neg (by omega), if_pos h]
theorem doZ_6 (z : ZS) (o : OpM) (h : o.d = 6) : doZ z o = ((loosenZ z o.a).1, (0, 0), (loosenZ z o.a).2) := by
  unfold doZ; rw [if_neg (by omega), if_neg (by omega), if_neg (by omega), if_neg (by omega), if_neg (by omega), if_pos h]
theorem doZ_7 (z : ZS) (o : OpM) (h : o.d ≠ 1 ∧ o.d ≠ 2 ∧ o.d ≠ 3 ∧ o.d ≠ 4 ∧ o.d ≠ 5 ∧ o.d ≠ 6) : doZ z o = (z, (0, 0), 1) := by
  unfold doZ; rw [if_neg h.1, if_neg h.2.1, if_neg h.2.2.1, if_neg h.2.2.2.1, if_neg h.2.2.2.2.1, if_neg h.2.2.2.2.2]
section
variable {G : Nat → Prop} {w0 w : World} {l : List Assn} {p : Nat} {z : ZS}
set_option maxHeartbeats 4000000 in
set_option maxRecDepth 100000 in
theorem zdo_in (h : In G w0 (ZooA p z :: l) w) (hk : ZOk z) (o : OpM) (hv : o.b.v.length = 8) :
    Calls Tryz.prog 36 #[ptr p, .agg (ints o.list)] w fun e w' => e = .returned (.tuple #[.agg (ints [(doZ z o).2.1.1, (doZ z o).2.1.2]), .int .i64 (doZ z o).2.2]) ∧ In G w0 (ZooA p (doZ z o).1 :: l) w' := by
  have H0 := Lib.hid h
  have HK := Lib.hid hk
  have HV8 := Lib.hid hv
  have h16 : o.list.length = 16 := OpM.len hv
  have hp : p < w.heap.size := by obtain ⟨wp, fp, m, _, _, _, hI⟩ := h.openZoo; exact hI.blk.lt
  clear h hk hv
  go_enter Tryz.func36, Tryz.ntmps36
  have hft : fits (((w.alloc (.cells (ints o.list) 81)).alloc (.cells #[.int .i64 0, .int .i64 0] 46)).alloc (.cells #[.int .i64 0, .int .i64 0] 46)) (w.heap.size + 1 + 1) 0 2 = true := by
    have h1 := (((H0.out.alloc 81 (ints o.list)).alloc 46 (ints [0, 0])).alloc 46 (ints [0, 0])).blk.fits 0 2 (by rw [ints_size]; simp)
    simp only [World.size_alloc] at h1
    exact h1
  go_upto_region 2 with (fail)
  refine wp_abs (In G w0 (Box (w.heap.size + 1 + 1) 46 (ints [0, 0]) :: Box (w.heap.size + 1) 46 (ints [0, 0]) :: Box w.heap.size 81 (ints o.list) :: ZooA p z :: l)) (by
    have h1 := H0.out.alloc 81 (ints o.list)
    have h2 := h1.alloc 46 (ints [0, 0])
    have h3 := h2.struct 46 [0, 0] [0, 0] rfl
    simp only [World.size_alloc] at h3
    exact h3) ?_
  clear hft
  have HNE : Hid (w.heap.size + 1 + 1 ≠ w.heap.size + 1 ∧ w.heap.size ≠ w.heap.size + 1 ∧ p ≠ w.heap.size + 1) := ⟨by omega, by omega, by omega⟩
  clear hp
  generalize w.heap.size + 1 + 1 = nb at *
  generalize w.heap.size + 1 = rb at *
  generalize w.heap.size = ob at *
  intro w3 hI3
  clear H0
  obtain ⟨d, ⟨bk, bv⟩, ⟨a1, a2⟩, ⟨t1, t2⟩, kk, nn⟩ := o
  have hv8 : bv.length = 8 := HV8.out
  have hI3 := hI3.third
  have hdrop : (OpM.list ⟨d, ⟨bk, bv⟩, (a1, a2), (t1, t2), kk, nn⟩).drop 10 = [a1, a2, t1, t2, kk, nn] := by
    have : (OpM.list ⟨d, ⟨bk, bv⟩, (a1, a2), (t1, t2), kk, nn⟩) = ([d] ++ (bk :: bv)) ++ [a1, a2, t1, t2, kk, nn] := rfl
    rw [this, List.drop_left' (by simp [hv8])]
  have hdrop12 : (OpM.list ⟨d, ⟨bk, bv⟩, (a1, a2), (t1, t2), kk, nn⟩).drop 12 = [t1, t2, kk, nn] := by
    rw [show (12 : Nat) = 10 + 2 from rfl, ← List.drop_drop, hdrop]; rfl
  have q0 : w3.cell? ⟨ob, 0, none⟩ = some (.int .i64 d) := hI3.blk.cell 0
  have qf : fits w3 rb 0 2 = true := hI3.third.blk.fits 0 2 (by rw [ints_size]; simp)
  obtain ⟨wp, fp, m, hm, hf, ha, hI4⟩ := hI3.fourth.openZoo
  have qp : w3.cell? ⟨p, 0, none⟩ = some (ptr wp) := hI4.blk.cell 0
  -- the world, the zoo's box, the family; op, none, result
  have HI3 : Hid (In G w0 (ZooA p z :: Box rb 46 (ints [0, 0]) :: Box ob 81 (ints (OpM.list ⟨d, ⟨bk, bv⟩, (a1, a2), (t1, t2), kk, nn⟩)) :: Box nb 46 (ints [0, 0]) :: l) w3) := by
    have := hI3.reorder 4 [3, 2, 0, 1] rfl (by simp)
    exact this
  have HI4 : Hid (In G w0 (WorldA wp z.ls z.f :: Box rb 46 (ints [0, 0]) :: zBox p wp fp :: FamA fp m :: Box ob 81 (ints (OpM.list ⟨d, ⟨bk, bv⟩, (a1, a2), (t1, t2), kk, nn⟩)) :: Box nb 46 (ints [0, 0]) :: l) w3) := by
    have := hI4.reorder 6 [1, 5, 0, 2, 3, 4] rfl (by simp)
    exact this
  have HM := Lib.hid hm
  clear hI3 hI4 hm hf ha
  generalize hL : Box ob 81 (ints (OpM.list ⟨d, ⟨bk, bv⟩, (a1, a2), (t1, t2), kk, nn⟩)) :: Box nb 46 (ints [0, 0]) :: l = L at *
  have HL : Hid (∀ {W : World} {A : Assn}, In G w0 (A :: L) W → In G w0 (A :: l) W) := by
    intro W A h; rw [← hL] at h; exact h.swap.drop.swap.drop
  have HOB : Hid (∀ {W : World} {A : Assn}, In G w0 (A :: L) W → row? W ob 10 2 = some (ints [a1, a2]) ∧ row? W ob 12 2 = some (ints [t1, t2]) ∧ row? W ob 1 9 = some (ints (Beast.list ⟨bk, bv⟩)) ∧ W.cell? ⟨ob, 14, none⟩ = some (.int .i64 kk) ∧ W.cell? ⟨ob, 15, none⟩ = some (.int .i64 nn) ∧ row? W nb 0 2 = some (ints [0, 0])) := by
    intro W A h
    rw [← hL] at h
    have hb := h.swap.blk
    refine ⟨?_, ?_, ?_, ?_, ?_, h.third.blk.row_all rfl⟩
    · rw [hb.row_ints 10 2 (by omega), hdrop]; rfl
    · rw [hb.row_ints 12 2 (by omega), hdrop12]; rfl
    · rw [hb.row_ints 1 9 (by omega)]
      have : (OpM.list ⟨d, ⟨bk, bv⟩, (a1, a2), (t1, t2), kk, nn⟩).drop 1 = Beast.list ⟨bk, bv⟩ ++ [a1, a2, t1, t2, kk, nn] := rfl
      rw [this, List.take_left' (by simp [Beast.list, hv8])]
    · refine cell_row0 (n := 1) (xs := []) ?_
      rw [hb.row_ints 14 1 (by omega), show (14 : Nat) = 10 + 4 from rfl, ← List.drop_drop, hdrop]; rfl
    · refine cell_row0 (n := 1) (xs := []) ?_
      rw [hb.row_ints 15 1 (by omega), show (15 : Nat) = 10 + 5 from rfl, ← List.drop_drop, hdrop]; rfl
  obtain ⟨q2, q3, q5, q14, q15, qn⟩ := HOB.out (HI3.out.swap.drop)
  clear hL hdrop hdrop12 h16 hv8
  -- the world is open
  have HFW : Hid (∀ {W : World} {A : Assn}, In G w0 (A :: Box rb 46 (ints [0, 0]) :: zBox p wp fp :: FamA fp m :: L) W → W.cell? ⟨p, 0, none⟩ = some (ptr wp) ∧ fits W rb 0 2 = true ∧ row? W ob 10 2 = some (ints [a1, a2]) ∧ row? W ob 1 9 = some (ints (Beast.list ⟨bk, bv⟩)) ∧ W.cell? ⟨ob, 14, none⟩ = some (.int .i64 kk) ∧ W.cell? ⟨ob, 15, none⟩ = some (.int .i64 nn) ∧ row? W nb 0 2 = some (ints [0, 0])) := by
    intro W A h
    obtain ⟨r2, r3, r5, r14, r15, rn⟩ := HOB.out (h.swap.drop.swap.drop.swap.drop)
    exact ⟨h.third.blk.cell 0, h.swap.blk.fits 0 2 (by rw [ints_size]; simp), r2, r5, r14, r15, rn⟩
  have HFZ : Hid (∀ {W : World} {A : Assn}, In G w0 (A :: Box rb 46 (ints [0, 0]) :: L) W → fits W rb 0 2 = true ∧ row? W ob 10 2 = some (ints [a1, a2]) ∧ row? W nb 0 2 = some (ints [0, 0])) := by
    intro W A h
    obtain ⟨r2, r3, r5, r14, r15, rn⟩ := HOB.out (h.swap.drop)
    exact ⟨h.swap.blk.fits 0 2 (by rw [ints_size]; simp), r2, rn⟩
  have HPUT : Hid (∀ {W : World} {A : Assn} {L : List Assn} (x y : Int), In G w0 (A :: Box rb 46 (ints [0, 0]) :: L) W → In G w0 (A :: Box rb 46 (ints [x, y]) :: L) (putRow W rb 0 [x, y])) := fun x y h => (h.swap.put_all [x, y] rfl).swap
  have HENDW : Hid (∀ {W : World} {ls' : List (Int × Bool)} {f' : BF} {xs : List Int}, In G w0 (WorldA wp ls' f' :: Box rb 46 (ints xs) :: zBox p wp fp :: FamA fp m :: L) W → In G w0 (ZooA p ⟨ls', f', z.B⟩ :: l) W) := fun {W ls' f' xs} h => HL.out (In.shutZoo (z := ⟨ls', f', z.B⟩) HM.out h.swap.drop.swap)
  clear hI3 HM
  by_cases h1 : d = 1
  · have hd : (d == 1) = true := by simp [h1]
    have HR : Hid (doZ z ⟨d, ⟨bk, bv⟩, (a1, a2), (t1, t2), kk, nn⟩ = _) := doZ_1 z _ h1
    clear h1 q2 q3 q14 q15 qn
    go_upto_region 4 with (fail)
    go_region_held3 (fun W => W.cell? ⟨p, 0, none⟩ = some (ptr wp) ∧ row? W ob 1 9 = some (ints (Beast.list ⟨bk, bv⟩)) ∧ fits W rb 0 2 = true)
      (refine ⟨?_, ?_, ?_⟩ <;> first | assumption | (refine row_far HNE.out.2.1 ?_; assumption) | (refine cell_far HNE.out.2.2 ?_; assumption) | (refine fits_again ?_ ?_ <;> assumption))
      (first
        | (go_at_call 56; refine (spawn_in HI4.out.drew HK.out.w ⟨bk, bv⟩ HV8.out).mono ?_; rintro e w10 ⟨rfl, hI10⟩; obtain ⟨s1, s2, s3, s4, s5, s6, s7⟩ := HFW.out hI10; have HI5 := Lib.hid hI10; clear hI10))
    have HI6 := Lib.hid (HPUT.out (spawnW z.ls z.f ⟨bk, bv⟩).2.1.1 (spawnW z.ls z.f ⟨bk, bv⟩).2.1.2 HI5.out)
    go_wp2_with fail
    refine bodyPost_row_tmp rfl rb 46 (ints [(spawnW z.ls z.f ⟨bk, bv⟩).2.1.1, (spawnW z.ls z.f ⟨bk, bv⟩).2.1.2]) (.int .i64 (spawnW z.ls z.f ⟨bk, bv⟩).2.2) _ rfl rfl HI6.out.swap.blk Tryz.underlying46 rfl (by rw [ints_size]; exact handle_info) rfl ?_
    rw [HR.out]
    exact ⟨rfl, HENDW.out HI6.out⟩
  have hd1 : (d == 1) = false := by simp [h1]
  by_cases h2 : d = 2
  · have hd : (d == 2) = true := by simp [h2]
    have HR : Hid (doZ z ⟨d, ⟨bk, bv⟩, (a1, a2), (t1, t2), kk, nn⟩ = _) := doZ_2 z _ h2
    clear h1 h2 q3 q5 q14 q15 qp
    go_upto_region 6 with (fail)
    go_region_held3 (fun W => row? W ob 10 2 = some (ints [a1, a2]) ∧ row? W nb 0 2 = some (ints [0, 0]) ∧ fits W rb 0 2 = true)
      (refine ⟨?_, ?_, ?_⟩ <;> first | assumption | (refine row_far HNE.out.2.1 ?_; assumption) | (refine row_far HNE.out.1 ?_; assumption) | (refine fits_again ?_ ?_ <;> assumption))
      (first
        | (go_at_call 57; refine (zkill_in HI3.out.drew HK.out (a1, a2)).mono ?_; rintro e w10 ⟨rfl, hI10⟩; obtain ⟨s1, s2, s3⟩ := HFZ.out hI10; have HI6 := Lib.hid (HPUT.out 0 0 hI10); clear hI10)
        | (go_at_call 57; refine (zkill_in (HPUT.out 0 0 HI3.out.drew) HK.out (a1, a2)).mono ?_; rintro e w10 ⟨rfl, hI10⟩; obtain ⟨s1, s2, s3⟩ := HFZ.out hI10; have HI6 := Lib.hid hI10; clear hI10))
    all_goals
      go_wp2_with fail
      refine bodyPost_row_tmp rfl rb 46 (ints [0, 0]) (.int .i64 (killZ z (a1, a2)).2) _ rfl rfl HI6.out.swap.blk Tryz.underlying46 rfl (by rw [ints_size]; exact handle_info) rfl ?_
      rw [HR.out]
      exact ⟨rfl, HL.out HI6.out.swap.drop⟩
  have hd2 : (d == 2) = false := by simp [h2]
  by_cases h3 : d = 3
  · have hd : (d == 3) = true := by simp [h3]
    have HR : Hid (doZ z ⟨d, ⟨bk, bv⟩, (a1, a2), (t1, t2), kk, nn⟩ = _) := doZ_3 z _ h3
    clear h1 h2 h3 q3 q5
    go_upto_region 8 with (fail)
    go_region_held3 (fun W => W.cell? ⟨p, 0, none⟩ = some (ptr wp) ∧ row? W ob 10 2 = some (ints [a1, a2]) ∧ W.cell? ⟨ob, 14, none⟩ = some (.int .i64 kk) ∧ W.cell? ⟨ob, 15, none⟩ = some (.int .i64 nn) ∧ row? W nb 0 2 = some (ints [0, 0]) ∧ fits W rb 0 2 = true)
      (refine ⟨?_, ?_, ?_, ?_, ?_, ?_⟩ <;> first | assumption | (refine row_far HNE.out.2.1 ?_; assumption) | (refine row_far HNE.out.1 ?_; assumption) | (refine cell_far HNE.out.2.2 ?_; assumption) | (refine cell_far HNE.out.2.1 ?_; assumption) | (refine fits_again ?_ ?_ <;> assumption))
      (first
        | (go_at_call 58; refine (put_in HI4.out.drew HK.out.w a1 a2 kk nn).mono ?_; rintro e w10 ⟨rfl, hI10⟩; obtain ⟨s1, s2, s3, s4, s5, s6, s7⟩ := HFW.out hI10; have HI6 := Lib.hid (HPUT.out 0 0 hI10); clear hI10)
        | (go_at_call 58; refine (put_in (HPUT.out 0 0 HI4.out.drew) HK.out.w a1 a2 kk nn).mono ?_; rintro e w10 ⟨rfl, hI10⟩; obtain ⟨s1, s2, s3, s4, s5, s6, s7⟩ := HFW.out hI10; have HI6 := Lib.hid hI10; clear hI10))
    all_goals
      go_wp2_with fail
      refine bodyPost_row_tmp rfl rb 46 (ints [0, 0]) (.int .i64 (putW z.ls z.f (a1, a2) kk nn).2) _ rfl rfl HI6.out.swap.blk Tryz.underlying46 rfl (by rw [ints_size]; exact handle_info) rfl ?_
      rw [HR.out]
      exact ⟨rfl, HENDW.out HI6.out⟩
  have hd3 : (d == 3) = false := by simp [h3]
  by_cases h4 : d = 4
  · have hd : (d == 4) = true := by simp [h4]
    have HR : Hid (doZ z ⟨d, ⟨bk, bv⟩, (a1, a2), (t1, t2), kk, nn⟩ = _) := doZ_4 z _ h4
    clear h1 h2 h3 h4 q3 q5 q15
    go_upto_region 10 with (fail)
    go_region_held3 (fun W => W.cell? ⟨p, 0, none⟩ = some (ptr wp) ∧ row? W ob 10 2 = some (ints [a1, a2]) ∧ W.cell? ⟨ob, 14, none⟩ = some (.int .i64 kk) ∧ row? W nb 0 2 = some (ints [0, 0]) ∧ fits W rb 0 2 = true)
      (refine ⟨?_, ?_, ?_, ?_, ?_⟩ <;> first | assumption | (refine row_far HNE.out.2.1 ?_; assumption) | (refine row_far HNE.out.1 ?_; assumption) | (refine cell_far HNE.out.2.2 ?_; assumption) | (refine cell_far HNE.out.2.1 ?_; assumption) | (refine fits_again ?_ ?_ <;> assumption))
      (first
        | (go_at_call 59; refine (drop_in HI4.out.drew HK.out.w a1 a2 kk).mono ?_; rintro e w10 ⟨rfl, hI10⟩; obtain ⟨s1, s2, s3, s4, s5, s6, s7⟩ := HFW.out hI10; have HI6 := Lib.hid (HPUT.out 0 0 hI10); clear hI10)
        | (go_at_call 59; refine (drop_in (HPUT.out 0 0 HI4.out.drew) HK.out.w a1 a2 kk).mono ?_; rintro e w10 ⟨rfl, hI10⟩; obtain ⟨s1, s2, s3, s4, s5, s6, s7⟩ := HFW.out hI10; have HI6 := Lib.hid hI10; clear hI10))
    all_goals
      go_wp2_with fail
      refine bodyPost_row_tmp rfl rb 46 (ints [0, 0]) (.int .i64 (dropW z.ls z.f (a1, a2) kk).2) _ rfl rfl HI6.out.swap.blk Tryz.underlying46 rfl (by rw [ints_size]; exact handle_info) rfl ?_
      rw [HR.out]
      exact ⟨rfl, HENDW.out HI6.out⟩
  have hd4 : (d == 4) = false := by simp [h4]
  clear q5 q14 q15 qp HI4 HENDW HFW
  by_cases h5 : d = 5
  · have hd : (d == 5) = true := by simp [h5]
    have HR : Hid (doZ z ⟨d, ⟨bk, bv⟩, (a1, a2), (t1, t2), kk, nn⟩ = _) := doZ_5 z _ h5
    clear h1 h2 h3 h4 h5
    have hbs : ∀ W, (Instr.buildSlice 119 2 #[(0, .agg (ints [a1, a2])), (1, .agg (ints [t1, t2]))]).run Tryz.prog W = .ok (.slice (some ⟨W.heap.size, 0, none⟩) 2 2) (W.alloc (.cells (ints [a1, a2, t1, t2]) 46)) := fun W => by kernel_rfl
    have HB : Hid (In G w0 (ZooA p z :: RowH (.slice (some ⟨w3.heap.size, 0, none⟩) 2 2) [(a1, a2), (t1, t2)] :: Box rb 46 (ints [0, 0]) :: L) (w3.alloc (.cells (ints [a1, a2, t1, t2]) 46))) := (HI3.out.newLit 46 2 2 [.int .i64 a1, .int .i64 a2, .int .i64 t1, .int .i64 t2] rfl (by decide)).swap
    go_wp2_with fail
    refine (zlive_in HB.out (by simp)).mono ?_
    rintro e w4 ⟨rfl, hI5⟩
    have hI5 := hI5.swap.drop
    by_cases hlv : liveZ z [(a1, a2), (t1, t2)] = true
    · have hlv2 : z.live (a1, a2) = true ∧ z.live (t1, t2) = true := by simpa [liveZ] using hlv
      have HA : Hid (adoptZ z (a1, a2) (t1, t2) = (⟨z.ls, z.f, bondsOf (adoptR z.B (a1, a2) (t1, t2)).1⟩, (adoptR z.B (a1, a2) (t1, t2)).2)) := by unfold Hid adoptZ; rw [if_pos hlv2]
      rw [if_pos hlv]
      obtain ⟨wp, fp, m, hm, hf, ha, hI6⟩ := hI5.openZoo
      obtain ⟨q2, q3, q5, q14, q15, qn⟩ := HOB.out hI5.swap.drop
      have qp : w4.cell? ⟨p, 1, none⟩ = some (ptr fp) := hI6.blk.cell 1
      have HAD := Lib.hid (ha.adopt (a1, a2) (t1, t2))
      have HBE : Hid (bondsOf (adoptR m (a1, a2) (t1, t2)).1 = bondsOf (adoptR z.B (a1, a2) (t1, t2)).1) := bonds_congr (hf.adopt _ _).nodup (HK.out.fam.adopt _ _).nodup (ha.adopt (a1, a2) (t1, t2)).1
      have HI6 : Hid (In G w0 (FamA fp m :: zBox p wp fp :: WorldA wp z.ls z.f :: Box rb 46 (ints [0, 0]) :: L) w4) := hI6.third
      clear hI5 hI6 hlv hlv2 hm hf ha q5 q14 q15 HB HI3
      go_upto_region 14 with (fail)
      go_still_tail 8, (by kernel_rfl)
      change wpList _ _ _ _ _ w4.drew
      have HI7 := Lib.hid HI6.out.drew
      clear HI6 q2 q3 qn qp qf
      generalize w4.drew = w5 at *
      go_wp2_with fail
      refine (fadopt_in HI7.out (a1, a2) (t1, t2)).mono ?_
      rintro e w6 ⟨rfl, hI8⟩
      have hI9 : In G w0 (ZooA p ⟨z.ls, z.f, bondsOf (adoptR z.B (a1, a2) (t1, t2)).1⟩ :: Box rb 46 (ints [0, 0]) :: L) w6 := In.shutZoo (z := ⟨z.ls, z.f, bondsOf (adoptR z.B (a1, a2) (t1, t2)).1⟩) HBE.out hI8.third.third
      rw [HAD.out.2]
      obtain ⟨qf, q2, qn⟩ := HFZ.out hI9
      have HI6 := Lib.hid (HPUT.out 0 0 hI9)
      clear hI8 hI9 HI7
      go_wp2_with fail
      refine bodyPost_row_tmp rfl rb 46 (ints [0, 0]) (.int .i64 (adoptR z.B (a1, a2) (t1, t2)).2) _ rfl rfl HI6.out.swap.blk Tryz.underlying46 rfl (by rw [ints_size]; exact handle_info) rfl ?_
      rw [HR.out, HA.out]
      exact ⟨rfl, HL.out HI6.out.swap.drop⟩
    · have hlv2 : ¬ (z.live (a1, a2) = true ∧ z.live (t1, t2) = true) := by simpa [liveZ] using hlv
      have HA : Hid (adoptZ z (a1, a2) (t1, t2) = (z, 7)) := by unfold Hid adoptZ; rw [if_neg hlv2]
      rw [if_neg hlv]
      obtain ⟨qf, q2, qn⟩ := HFZ.out hI5
      have HI6 := Lib.hid (HPUT.out 0 0 hI5)
      clear hI5 hlv hlv2 HB HI3
      go_wp2_with fail
      refine bodyPost_row_tmp rfl rb 46 (ints [0, 0]) (.int .i64 7) _ rfl rfl HI6.out.swap.blk Tryz.underlying46 rfl (by rw [ints_size]; exact handle_info) rfl ?_
      rw [HR.out, HA.out]
      exact ⟨rfl, HL.out HI6.out.swap.drop⟩
  have hd5 : (d == 5) = false := by simp [h5]
  by_cases h6 : d = 6
  · have hd : (d == 6) = true := by simp [h6]
    have HR : Hid (doZ z ⟨d, ⟨bk, bv⟩, (a1, a2), (t1, t2), kk, nn⟩ = _) := doZ_6 z _ h6
    clear h1 h2 h3 h4 h5 h6
    have HB : Hid (In G w0 (ZooA p z :: RowH (.slice (some ⟨w3.heap.size, 0, none⟩) 1 1) [(a1, a2)] :: Box rb 46 (ints [0, 0]) :: L) (w3.alloc (.cells (ints [a1, a2]) 46))) := (HI3.out.newLit 46 2 1 [.int .i64 a1, .int .i64 a2] rfl (by decide)).swap
    go_wp2_with fail
    refine (zlive_in HB.out (by simp)).mono ?_
    rintro e w4 ⟨rfl, hI5⟩
    have hI5 := hI5.swap.drop
    by_cases hlv : liveZ z [(a1, a2)] = true
    · have hlv2 : z.live (a1, a2) = true := by simpa [liveZ] using hlv
      have HA : Hid (loosenZ z (a1, a2) = (⟨z.ls, z.f, (loosenR z.B (a1, a2)).1⟩, (loosenR z.B (a1, a2)).2)) := by unfold Hid loosenZ; rw [if_pos hlv2]
      rw [if_pos hlv]
      obtain ⟨wp, fp, m, hm, hf, ha, hI6⟩ := hI5.openZoo
      obtain ⟨q2, q3, q5, q14, q15, qn⟩ := HOB.out hI5.swap.drop
      have qp : w4.cell? ⟨p, 1, none⟩ = some (ptr fp) := hI6.blk.cell 1
      have HAD := Lib.hid (ha.loosen (a1, a2))
      have HBE : Hid (bondsOf (loosenR m (a1, a2)).1 = (loosenR z.B (a1, a2)).1) := by
        have h1 := (HK.out.loosen (a1, a2)).srt
        rw [HA.out] at h1
        have h2 := bonds_congr (hf.loosen (a1, a2)).nodup (HK.out.fam.loosen (a1, a2)).nodup (ha.loosen (a1, a2)).1
        exact h2.trans h1
      have HI6 : Hid (In G w0 (FamA fp m :: zBox p wp fp :: WorldA wp z.ls z.f :: Box rb 46 (ints [0, 0]) :: L) w4) := hI6.third
      clear hI5 hI6 hlv hlv2 hm hf ha q3 q5 q14 q15 HB HI3
      go_upto_region 19 with (fail)
      go_still_tail 6, (by kernel_rfl)
      change wpList _ _ _ _ _ w4.drew
      have HI7 := Lib.hid HI6.out.drew
      clear HI6 q2 qn qp qf
      generalize w4.drew = w5 at *
      go_wp2_with fail
      refine (floosen_in HI7.out (a1, a2)).mono ?_
      rintro e w6 ⟨rfl, hI8⟩
      have hI9 : In G w0 (ZooA p ⟨z.ls, z.f, (loosenR z.B (a1, a2)).1⟩ :: Box rb 46 (ints [0, 0]) :: L) w6 := In.shutZoo (z := ⟨z.ls, z.f, (loosenR z.B (a1, a2)).1⟩) HBE.out hI8.third.third
      rw [HAD.out.2]
      obtain ⟨qf, q2, qn⟩ := HFZ.out hI9
      have HI6 := Lib.hid (HPUT.out 0 0 hI9)
      clear hI8 hI9 HI7
      go_wp2_with fail
      refine bodyPost_row_tmp rfl rb 46 (ints [0, 0]) (.int .i64 (loosenR z.B (a1, a2)).2) _ rfl rfl HI6.out.swap.blk Tryz.underlying46 rfl (by rw [ints_size]; exact handle_info) rfl ?_
      rw [HR.out, HA.out]
      exact ⟨rfl, HL.out HI6.out.swap.drop⟩
    · have hlv2 : ¬ (z.live (a1, a2) = true) := by simpa [liveZ] using hlv
      have HA : Hid (loosenZ z (a1, a2) = (z, 7)) := by unfold Hid loosenZ; rw [if_neg hlv2]
      rw [if_neg hlv]
      obtain ⟨qf, q2, qn⟩ := HFZ.out hI5
      have HI6 := Lib.hid (HPUT.out 0 0 hI5)
      clear hI5 hlv hlv2 HB HI3
      go_wp2_with fail
      refine bodyPost_row_tmp rfl rb 46 (ints [0, 0]) (.int .i64 7) _ rfl rfl HI6.out.swap.blk Tryz.underlying46 rfl (by rw [ints_size]; exact handle_info) rfl ?_
      rw [HR.out, HA.out]
      exact ⟨rfl, HL.out HI6.out.swap.drop⟩
  have hd6 : (d == 6) = false := by simp [h6]
  have HR : Hid (doZ z ⟨d, ⟨bk, bv⟩, (a1, a2), (t1, t2), kk, nn⟩ = _) := doZ_7 z _ ⟨h1, h2, h3, h4, h5, h6⟩
  have HI6 := Lib.hid (HPUT.out 0 0 HI3.out)
  go_wp2_with fail
  refine bodyPost_row_tmp rfl rb 46 (ints [0, 0]) (.int .i64 1) _ rfl rfl HI6.out.swap.blk Tryz.underlying46 rfl (by rw [ints_size]; exact handle_info) rfl ?_
  rw [HR.out]
  exact ⟨rfl, HL.out HI6.out.swap.drop⟩
end

end Go.Proofs.YtpgcghnlepnoiaaGreatDoor

/-
  The contract of vivariumkeep.done: a zoo by some operations.
-/
namespace Go.Proofs.YtpgcghnlepnoiaaGreatDoor
open Go.RowKit

theorem In.bare {G : Nat → Prop} {w0 w : World} {l : List Assn} (h : In G w0 l w) : In G w0 [] w := ⟨trivial, h.only⟩
/-- operations that are read, wherever the walk stands -/
def OpsAt (G : Nat → Prop) (w0 : World) (B : Nat) (A : Option Addr) (os : List OpM) : Prop := ∀ {W : World}, In G w0 [] W → OpsIn W B A os
theorem OpsAt.of_arg {w : World} {A : Option Addr} {os : List OpM} (h : OpsIn w w.heap.size A os) : OpsAt (fun _ => False) w w.heap.size A os := fun hI => h.below hI.below0
section
variable {G : Nat → Prop} {w0 w : World} {l : List Assn} {B : Nat} {A : Option Addr} {c : Nat} {os : List OpM}
set_option maxHeartbeats 2000000 in
set_option maxRecDepth 100000 in
theorem zdone_in (hO : OpsAt G w0 B A os) (hlen : os.length ≤ 1099511627776) (hb8 : ∀ o ∈ os, o.b.v.length = 8) (hI : In G w0 l w) :
    Calls Tryz.prog 13 #[.slice A os.length c] w fun e w' => ∃ p, e = .returned (ptr p) ∧ In G w0 (ZooA p (doneZ os) :: l) w' := by
  have HO : Hid (OpsAt G w0 B A os) := hO
  have HI0 := Lib.hid hI
  have H8 := Lib.hid hb8
  clear hI hb8 hO
  go_enter Tryz.func13, Tryz.ntmps13
  go_wp2_with fail
  refine (znew_in HI0.out).mono ?_
  rintro e w2 ⟨p, rfl, hI⟩
  have HI1 := Lib.hid hI
  clear hI HI0
  go_wp2_with fail
  go_loopw [11] (fun i w' => ∃ k : Nat, k ≤ os.length ∧ i = .int .i64 k ∧ In G w0 (ZooA p (doneTo os k) :: l) w') (fun i _ => os.length - (intOf i).toNat)
  case atStart => exact ⟨0, Nat.zero_le _, rfl, HI1.out⟩
  case round =>
    clear HI1
    obtain ⟨k, hk, rfl, hI⟩ := hrel
    have HI := Lib.hid hI
    clear hI
    by_cases hlt : k < os.length
    · have hki : (k : Int) < os.length := by omega
      obtain ⟨b, o, rfl, hbl, q1⟩ := (HO.out HI.out.bare).at_ hlt
      have HS : Hid (doneTo os (k + 1) = (doZ (doneTo os k) os[k]).1) := doneTo_succ os k hlt
      have HOK : Hid (ZOk (doneTo os k)) := doneTo_ok H8.out k
      have HV8 : Hid (os[k].b.v.length = 8) := H8.out _ (List.getElem_mem hlt)
      have h16 : (OpM.list os[k]).length = 16 := OpM.len HV8.out
      generalize os[k] = op at *
      generalize doneTo os k = z at *
      go_upto_region 7 with (fail)
      refine wp_abs (In G w0 (Box wr.heap.size 81 (ints op.list) :: ZooA p z :: l)) (HI.out.struct 81 [0, 0, 0, 0, 0, 0, 0, 0, 0, 0, 0, 0, 0, 0, 0, 0] op.list h16) ?_
      generalize wr.heap.size = ob
      intro w3 hI3
      have q2 : row? w3 ob 0 16 = some (ints op.list) := hI3.blk.row_all h16
      have HI3 := Lib.hid hI3.swap
      clear hI3 q1 HI h16
      go_wp2_with fail
      refine (zdo_in HI3.out HOK.out op HV8.out).mono ?_
      rintro e w4 ⟨rfl, hI4⟩
      have HI4 := Lib.hid hI4
      clear hI4
      go_wp2_with fail
      go_roundw
      case rel => exact ⟨k + 1, by omega, by go_num, by rw [HS.out]; exact HI4.out.swap.drop⟩
      case measure => simp [intOf]; omega
    · have : k = os.length := by omega
      subst this
      have HF : Hid (doneTo os os.length = doneZ os) := by unfold Hid doneTo; rw [List.take_length]
      rw [HF.out] at HI
      go_wp2_with fail
      go_ret
      exact ⟨p, rfl, HI.out⟩
end

end Go.Proofs.YtpgcghnlepnoiaaGreatDoor

/-
  The handles that an operation looks at: zoo.looks.
-/
namespace Go.Proofs.YtpgcghnlepnoiaaGreatDoor
open Go.RowKit

def offsZ (d : Int) : List Nat := if d = 2 ∨ d = 3 ∨ d = 4 ∨ d = 6 then [10] else if d = 5 then [10, 12] else []
def handO (o : OpM) (off : Nat) : Hd := if off = 10 then o.a else o.t
def setO (o : OpM) (off : Nat) (h : Hd) : OpM := if off = 10 then { o with a := h } else { o with t := h }
/-- what is meant, so far -/
def meanK (sp : List Hd) (o : OpM) : List Nat → OpM
  | [] => o
  | off :: l => meanK sp (setO o off (meantT sp (handO o off))) l
theorem meanK_append (sp : List Hd) (l l' : List Nat) : ∀ o, meanK sp o (l ++ l') = meanK sp (meanK sp o l) l' := by
  induction l with
  | nil => intro o; rfl
  | cons a l ih => intro o; exact ih _
theorem setO_b (o : OpM) (off : Nat) (h : Hd) : (setO o off h).b = o.b ∧ (setO o off h).d = o.d := by
  unfold setO; split <;> exact ⟨rfl, rfl⟩
theorem meanK_b (sp : List Hd) (l : List Nat) : ∀ o, (meanK sp o l).b = o.b ∧ (meanK sp o l).d = o.d := by
  induction l with
  | nil => intro o; exact ⟨rfl, rfl⟩
  | cons a l ih => intro o; exact ⟨(ih _).1.trans (setO_b _ _ _).1, (ih _).2.trans (setO_b _ _ _).2⟩
theorem offs_mem {d : Int} {off : Nat} (h : off ∈ offsZ d) : off = 10 ∨ off = 12 := by
  unfold offsZ at h
  split at h
  · simp at h; exact Or.inl h
  · split at h
    · simp at h; exact h
    · simp at h
theorem offs_len (d : Int) : (offsZ d).length ≤ 2 := by
  unfold offsZ; split; simp; split; simp; simp
/-- a handle is not yet touched -/
theorem hand_kept (sp : List Hd) (o : OpM) (k : Nat) (hk : k < (offsZ o.d).length) : handO (meanK sp o ((offsZ o.d).take k)) (offsZ o.d)[k] = handO o (offsZ o.d)[k] := by
  unfold offsZ at hk ⊢
  by_cases h1 : o.d = 2 ∨ o.d = 3 ∨ o.d = 4 ∨ o.d = 6
  · simp only [if_pos h1] at hk ⊢
    have : k = 0 := by simpa using hk
    subst this; rfl
  · simp only [if_neg h1] at hk ⊢
    by_cases h5 : o.d = 5
    · simp only [if_pos h5] at hk ⊢
      simp at hk
      match k, hk with
      | 0, _ => rfl
      | 1, _ => rfl
    · simp [if_neg h5] at hk
theorem looks_none {sp : List Hd} {o : OpM} {k : Nat} (hk : k < (offsZ o.d).length) (h : meantH sp (handO o (offsZ o.d)[k]) = none) : looksZ sp o = none := by
  unfold looksZ
  unfold offsZ at hk
  by_cases h1 : o.d = 2 ∨ o.d = 3 ∨ o.d = 4 ∨ o.d = 6
  · rw [if_pos h1]
    have e : offsZ o.d = [10] := by unfold offsZ; rw [if_pos h1]
    simp only [e] at h
    simp only [if_pos h1] at hk
    have : k = 0 := by simpa using hk
    subst this
    have : meantH sp o.a = none := h
    rw [this]; rfl
  · rw [if_neg h1]
    simp only [if_neg h1] at hk
    by_cases h5 : o.d = 5
    · rw [if_pos h5]
      have e : offsZ o.d = [10, 12] := by unfold offsZ; rw [if_neg h1, if_pos h5]
      simp only [e] at h
      simp only [if_pos h5] at hk
      simp at hk
      match k, hk with
      | 0, _ => have : meantH sp o.a = none := h; rw [this]; rfl
      | 1, _ =>
        have : meantH sp o.t = none := h
        rw [this]
        cases meantH sp o.a <;> rfl
    · simp [if_neg h5] at hk
theorem looks_all {sp : List Hd} {o : OpM} (h : ∀ k, (hk : k < (offsZ o.d).length) → meantH sp (handO o (offsZ o.d)[k]) ≠ none) : looksZ sp o = some (meanK sp o (offsZ o.d)) := by
  unfold looksZ
  by_cases h1 : o.d = 2 ∨ o.d = 3 ∨ o.d = 4 ∨ o.d = 6
  · have e : offsZ o.d = [10] := by unfold offsZ; rw [if_pos h1]
    simp only [e] at h ⊢
    rw [if_pos h1]
    have h0 := h 0 (by simp)
    cases hm : meantH sp o.a with
    | none => exact absurd hm h0
    | some a =>
      have := meant_eq hm
      simp [meanK, setO, handO, this]
  · rw [if_neg h1]
    by_cases h5 : o.d = 5
    · have e : offsZ o.d = [10, 12] := by unfold offsZ; rw [if_neg h1, if_pos h5]
      simp only [e] at h ⊢
      rw [if_pos h5]
      have h0 := h 0 (by simp)
      have h2 := h 1 (by simp)
      cases hm : meantH sp o.a with
      | none => exact absurd hm h0
      | some a =>
        cases ht : meantH sp o.t with
        | none => exact absurd ht h2
        | some t =>
          have e1 := meant_eq hm
          have e2 := meant_eq ht
          simp [meanK, setO, handO, e1, e2]
    · have e : offsZ o.d = [] := by unfold offsZ; rw [if_neg h1, if_neg h5]
      rw [if_neg h5, e]; rfl
/-- the cells of an operation where its handles lie -/
theorem op_drop10 (o : OpM) (hv : o.b.v.length = 8) : o.list.drop 10 = [o.a.1, o.a.2, o.t.1, o.t.2, o.k, o.n] := by
  have : o.list = ([o.d] ++ o.b.list) ++ [o.a.1, o.a.2, o.t.1, o.t.2, o.k, o.n] := rfl
  rw [this, List.drop_left' (by simp [Beast.list, hv])]
theorem op_hand {o : OpM} (hv : o.b.v.length = 8) {off : Nat} (h : off = 10 ∨ off = 12) : (o.list.drop off).take 2 = [(handO o off).1, (handO o off).2] := by
  rcases h with rfl | rfl
  · rw [op_drop10 o hv]; rfl
  · rw [show (12 : Nat) = 10 + 2 from rfl, ← List.drop_drop, op_drop10 o hv]; rfl
theorem op_set {o : OpM} (hv : o.b.v.length = 8) {off : Nat} (h : off = 10 ∨ off = 12) (x : Hd) : o.list.take off ++ [x.1, x.2] ++ o.list.drop (off + 2) = (setO o off x).list := by
  have e : ∀ o' : OpM, o'.list = ([o'.d] ++ o'.b.list) ++ [o'.a.1, o'.a.2, o'.t.1, o'.t.2, o'.k, o'.n] := fun _ => rfl
  have hl : ([o.d] ++ o.b.list).length = 10 := by simp [Beast.list, hv]
  rcases h with rfl | rfl
  · rw [show 10 + 2 = 10 + 2 from rfl, ← List.drop_drop, op_drop10 o hv, e o, List.take_left' hl]
    unfold setO
    rw [if_pos rfl, e]
    simp
  · have h2 : o.list.take 12 = ([o.d] ++ o.b.list) ++ [o.a.1, o.a.2] := by
      rw [e o, List.take_append, hl, List.take_of_length_le (by omega)]; rfl
    rw [h2, show 12 + 2 = 10 + 4 from rfl, ← List.drop_drop, op_drop10 o hv]
    unfold setO
    rw [if_neg (by decide), e]
    simp

section
variable {G : Nat → Prop} {w0 w : World} {l : List Assn} {ob : Nat} {o : OpM}
abbrev PtrsA (v : Value) (ob : Nat) (offs : List Nat) : Assn := RowA 123 1 v offs.length (offs.map fun o => Value.pointer (some ⟨ob, o, none⟩))
set_option maxHeartbeats 2000000 in
set_option maxRecDepth 100000 in
theorem looks_in (h : In G w0 (Box ob 81 (ints o.list) :: l) w) :
    Calls Tryz.prog 55 #[.pointer (some ⟨ob, 0, none⟩)] w fun e w' => ∃ v, e = .returned v ∧ In G w0 (PtrsA v ob (offsZ o.d) :: Box ob 81 (ints o.list) :: l) w' := by
  have q0 : w.cell? ⟨ob, 0, none⟩ = some (.int .i64 o.d) := h.blk.cell 0
  have H := Lib.hid h
  clear h
  have HONE : Hid (offsZ o.d = [10] → In G w0 (PtrsA (.slice (some ⟨w.heap.size, 0, none⟩) 1 1) ob (offsZ o.d) :: Box ob 81 (ints o.list) :: l) (w.alloc (.cells #[.pointer (some ⟨ob, 10, none⟩)] 123))) := fun e => by
    rw [e]; exact H.out.newLit 123 1 1 [.pointer (some ⟨ob, 10, none⟩)] rfl (by decide)
  have HTWO : Hid (offsZ o.d = [10, 12] → In G w0 (PtrsA (.slice (some ⟨w.heap.size, 0, none⟩) 2 2) ob (offsZ o.d) :: Box ob 81 (ints o.list) :: l) (w.alloc (.cells #[.pointer (some ⟨ob, 10, none⟩), .pointer (some ⟨ob, 12, none⟩)] 123))) := fun e => by
    rw [e]; exact H.out.newLit 123 1 2 [.pointer (some ⟨ob, 10, none⟩), .pointer (some ⟨ob, 12, none⟩)] rfl (by decide)
  have HNO : Hid (offsZ o.d = [] → In G w0 (PtrsA (.slice none 0 0) ob (offsZ o.d) :: Box ob 81 (ints o.list) :: l) w) := fun e => by
    rw [e]; exact H.out.nilRow 123 1
  have HOFF : Hid (∀ d, offsZ d = if d = 2 ∨ d = 3 ∨ d = 4 ∨ d = 6 then [10] else if d = 5 then [10, 12] else []) := fun d => rfl
  generalize o.d = d at *
  go_enter Tryz.func55, Tryz.ntmps55
  by_cases h2 : d = 2
  · have hd : (d == 2) = true := by simp [h2]
    have HE : Hid (offsZ d = [10]) := by rw [HOFF.out, if_pos (Or.inl h2)]; rfl
    go_wp2_with fail
    go_ret
    exact ⟨_, rfl, HONE.out HE.out⟩
  have hd2 : (d == 2) = false := by simp [h2]
  by_cases h3 : d = 3
  · have hd : (d == 3) = true := by simp [h3]
    have HE : Hid (offsZ d = [10]) := by rw [HOFF.out, if_pos (Or.inr (Or.inl h3))]; rfl
    go_wp2_with fail
    go_ret
    exact ⟨_, rfl, HONE.out HE.out⟩
  have hd3 : (d == 3) = false := by simp [h3]
  by_cases h4 : d = 4
  · have hd : (d == 4) = true := by simp [h4]
    have HE : Hid (offsZ d = [10]) := by rw [HOFF.out, if_pos (Or.inr (Or.inr (Or.inl h4)))]; rfl
    go_wp2_with fail
    go_ret
    exact ⟨_, rfl, HONE.out HE.out⟩
  have hd4 : (d == 4) = false := by simp [h4]
  by_cases h6 : d = 6
  · have hd : (d == 6) = true := by simp [h6]
    have HE : Hid (offsZ d = [10]) := by rw [HOFF.out, if_pos (Or.inr (Or.inr (Or.inr h6)))]; rfl
    go_wp2_with fail
    go_ret
    exact ⟨_, rfl, HONE.out HE.out⟩
  have hd6 : (d == 6) = false := by simp [h6]
  have hno : ¬ (d = 2 ∨ d = 3 ∨ d = 4 ∨ d = 6) := by omega
  by_cases h5 : d = 5
  · have hd : (d == 5) = true := by simp [h5]
    have HE : Hid (offsZ d = [10, 12]) := by rw [HOFF.out, if_neg hno, if_pos h5]; rfl
    go_wp2_with fail
    go_region
    all_goals
      go_wp2_with fail
      go_ret
      exact ⟨_, rfl, (HTWO.out HE.out).drew⟩
  have hd5 : (d == 5) = false := by simp [h5]
  have HE : Hid (offsZ d = []) := by rw [HOFF.out, if_neg hno, if_neg h5]; rfl
  go_wp2_with fail
  go_ret
  exact ⟨_, rfl, HNO.out HE.out⟩
end

end Go.Proofs.YtpgcghnlepnoiaaGreatDoor

/-
  The walk of the law WorldKills.
-/
namespace Go.Proofs.YtpgcghnlepnoiaaGreatDoor
open Go.RowKit

theorem row_partW {w : World} {g o n : Nat} {xs : List Int} (h : row? w g o n = some (ints xs)) (a m : Nat) (ham : a + m ≤ n) : row? w g (o + a) m = some (ints ((xs.drop a).take m)) := by
  unfold row? at *
  split at h
  · split at h
    · rename_i hle
      injection h with h
      rw [if_pos (by omega)]
      congr 1
      have h2 : (ints xs).extract a (a + m) = ints ((xs.drop a).take m) := by
        unfold ints
        apply Array.ext'
        simp [List.map_drop, List.map_take, List.extract_eq_take_drop]
      rw [← h2, ← h, Array.extract_extract, Nat.min_eq_left (by omega), Nat.add_assoc]
    · cases h
  · cases h
section
variable {P : Program} {w : World}
theorem addr_add (g o j : Nat) : (⟨g, o, none⟩ : Addr).add j = ⟨g, o + j, none⟩ := by unfold Addr.add; split <;> simp_all
theorem own_cells {E : TypeId} {size n c g : Nat} {xs : List Value} (h : w.ownsRow 0 E size (.slice (some ⟨g, 0, none⟩) n c) n xs) (j : Nat) (y : Value) (hy : xs[j]? = some y) : w.cell? ⟨g, j, none⟩ = some y := by
  obtain ⟨hl, h | ⟨g', cap, cur, e, _, hg, hc1, hc2, hc3, hc4⟩⟩ := h
  · cases h.1
  · injection e with e1 e2 e3
    injection e1 with e1
    injection e1 with e1
    subst e1
    rw [cell_of_row w g j cur E (0, 0) hg, ← hy, ← hc4, List.getElem?_take, if_pos]
    · simp
    · have := (List.getElem?_eq_some_iff.1 hy).1; omega
theorem step_append_src {ops : Array Oper} {o : Oper} {a : Act} {K : Act → World → Prop} {Q : Exit → Act → World → Prop} {X : Prop} (hw : Region.wanted o (yielded ops a.tmps) = true) (s x : Operand) (t : TypeId) (ho : o.op = .call { callee := .builtin .append, args := #[s, x], argTypes := #[t, t] })
    (E : TypeId) (i : TypeInfo) (z : Value) (size bytes : Nat) (ht : P.underlying t = some (.slice E)) (hi : P.info? E = some i) (hz : i.zero = some z)
    (hsize : i.size = size) (hby : i.bytes = bytes) (hzs : z.cells.size = size) (hsz : 0 < size) {v : Value} {n m cap : Nat} {xs news : List Value} {src : Addr} (hs : a.eval s = v) (hx : a.eval x = .slice (some src) m cap) (hown : w.ownsRow 0 E size v n xs)
    (hl : news.length = m * size) (hsrc : ∀ j y, news[j]? = some y → w.cell? (src.add j) = some y) (h1 : ∀ x ∈ news, x.oneCell' = true) (h63 : n + m ≤ maxLen) (hbytes : (n + m) * bytes ≤ 140737488355328)
    (h : ∀ v' w', w'.ownsRow 0 E size v' (n + m) (xs ++ news) → w.grownBy w' v.ownBlock → (v'.ownBlock = v.ownBlock ∨ v'.ownBlock = some w.heap.size) → K (a.put o.dst v') w') : if Region.wanted o (yielded ops a.tmps) = true then Oper.wp P o a w K Q else X := by
  rw [if_pos hw]
  obtain ⟨v', w', hr, h2, h3, _, h5⟩ := run_append_own_at (P := P) w 0 t o.type E i z size bytes ht hi hz hsize hby hzs hsz v n xs hown src m cap news hl hsrc h1 h63 hbytes (Nat.zero_le _)
  unfold Oper.wp
  simp [execOp, ho, resolve, invoke, builtin, hs, hx, hr, Result.andThen]
  exact h v' w' h2 h3 h5
end
theorem flatR_len (rs : List RowM) : (rs.flatMap rowC).length = rs.length * 11 := by
  induction rs with
  | nil => rfl
  | cons r rs ih => rw [List.flatMap_cons, List.length_append, rowC_len, ih, List.length_cons]; omega
theorem flatR_take (rs : List RowM) (k j : Nat) (y : Value) (h : ((rs.take k).flatMap rowC)[j]? = some y) : (rs.flatMap rowC)[j]? = some y := by
  conv => lhs; rw [← List.take_append_drop k rs]
  rw [List.flatMap_append, List.getElem?_append_left (List.getElem?_eq_some_iff.1 h).1]
  exact h
theorem flatR_drop (rs : List RowM) (k j : Nat) (hk : k ≤ rs.length) (y : Value) (h : ((rs.drop k).flatMap rowC)[j]? = some y) : (rs.flatMap rowC)[k * 11 + j]? = some y := by
  have hl : ((rs.take k).flatMap rowC).length = k * 11 := by rw [flatR_len, List.length_take, Nat.min_eq_left hk]
  conv => lhs; rw [← List.take_append_drop k rs]
  rw [List.flatMap_append, List.getElem?_append_right (by omega), hl, Nat.add_sub_cancel_left]
  exact h
theorem rowC_one (rs : List RowM) : ∀ x ∈ rs.flatMap rowC, x.oneCell' = true := by
  intro x hx
  obtain ⟨r, _, hr⟩ := List.mem_flatMap.1 hx
  obtain ⟨y, _, rfl⟩ := List.mem_map.1 hr
  rfl
theorem take_gone {ls : List (Int × Bool)} {k : Nat} {g : Int} (hk : k < ls.length) (hg : (sl ls k).1 ≠ g) : k < (takeR ls).1.length ∧ (sl (takeR ls).1 k).1 ≠ g := by
  unfold takeR
  split
  · simp only [List.length_set]
    refine ⟨hk, ?_⟩
    rw [sl, List.getD_eq_getElem?_getD]
    by_cases e : ls.findIdx freeB = k
    · rw [List.getElem?_set, if_pos e, if_pos (by omega), e]
      exact hg
    · rw [List.getElem?_set_ne e, ← List.getD_eq_getElem?_getD]; exact hg
  · split
    · exact ⟨hk, hg⟩
    · simp only [List.length_append]
      refine ⟨by omega, ?_⟩
      rw [sl, List.getD_eq_getElem?_getD, List.getElem?_append_left hk, ← List.getD_eq_getElem?_getD]
      exact hg
theorem spawn_gone {ls : List (Int × Bool)} {f : BF} {b : Beast} {k : Nat} {g : Int} (hk : k < ls.length) (hg : (sl ls k).1 ≠ g) : liveB (spawnW ls f b).1.1 (k : Int) g = false := by
  have h : k < (spawnW ls f b).1.1.length ∧ (sl (spawnW ls f b).1.1 k).1 ≠ g := by
    unfold spawnW
    split
    · exact ⟨hk, hg⟩
    · split
      · exact take_gone hk hg
      · exact take_gone hk hg
  rw [liveB_iff h.1, decide_eq_false h.2]; rfl
theorem kill_spawn {ls : List (Int × Bool)} {f : BF} {b : Beast} {s g : Int} (hl : liveB ls s g = true) : liveB (spawnW (killW ls f (s, g)).1.1 (killW ls f (s, g)).1.2 b).1.1 s g = false := by
  obtain ⟨k, rfl, hk, _⟩ := live_true hl
  unfold killW
  rw [if_pos hl]
  simp only
  unfold freeR
  rw [if_pos hl]
  simp only [Int.toNat_natCast]
  refine spawn_gone (by rw [List.length_set]; exact hk) ?_
  rw [sl, List.getD_eq_getElem?_getD, List.getElem?_set, if_pos rfl, if_pos hk]
  simp only [Option.getD_some]
  omega

end Go.Proofs.YtpgcghnlepnoiaaGreatDoor

/-
  The contract of world.Load at what a world has.
-/
namespace Go.Proofs.YtpgcghnlepnoiaaGreatDoor
open Go.RowKit

/-- the beasts of the first j rows -/
noncomputable def fTo (f : BF) (rs : List RowM) (j : Nat) : BF := fun s => @ite _ (∃ i, ∃ h : i < rs.length, i < j ∧ rs[i].h.1 = s) (Classical.propDecidable _) (f s) none
theorem fTo_zero (f : BF) (rs : List RowM) : fTo f rs 0 = fun _ => none := by
  funext s
  unfold fTo
  rw [if_neg]
  rintro ⟨i, h, h1, _⟩
  omega
theorem fTo_succ {f : BF} {rs : List RowM} {j : Nat} (hj : j < rs.length) (hf : f rs[j].h.1 = some (rs[j].h.2, rs[j].b)) : fTo f rs (j + 1) = updB (fTo f rs j) rs[j].h.1 (some (rs[j].h.2, rs[j].b)) := by
  funext s
  unfold updB
  by_cases e : s = rs[j].h.1
  · rw [if_pos e]
    unfold fTo
    rw [if_pos ⟨j, hj, by omega, e.symm⟩, e, hf]
  · rw [if_neg e]
    unfold fTo
    by_cases h : ∃ i, ∃ h : i < rs.length, i < j ∧ rs[i].h.1 = s
    · obtain ⟨i, h1, h2, h3⟩ := h
      rw [if_pos ⟨i, h1, by omega, h3⟩, if_pos ⟨i, h1, h2, h3⟩]
    · rw [if_neg h, if_neg]
      rintro ⟨i, h1, h2, h3⟩
      by_cases ei : i = j
      · subst ei; exact e h3.symm
      · exact h ⟨i, h1, by omega, h3⟩
theorem fTo_all {ls : List (Int × Bool)} {f : BF} (h : WOk ls f) : fTo f (allW ls f) (allW ls f).length = f := by
  funext s
  unfold fTo
  cases hf : f s with
  | none => split <;> rfl
  | some x =>
    obtain ⟨g, b⟩ := x
    have hm : (⟨(s, g), b⟩ : RowM) ∈ allW ls f := (mem_allW h).2 hf
    obtain ⟨i, hi, hir⟩ := List.mem_iff_getElem.1 hm
    rw [if_pos ⟨i, hi, hi, by rw [hir]⟩]
theorem fTo_none {ls : List (Int × Bool)} {f : BF} {j : Nat} (hj : j < (allW ls f).length) : fTo f (allW ls f) j (allW ls f)[j].h.1 = none := by
  unfold fTo
  rw [if_neg]
  rintro ⟨i, h1, h2, h3⟩
  have := List.pairwise_iff_getElem.1 (all_sorted ls f) i j h1 hj h2
  unfold sLt at this
  change (allW ls f)[i].h.1 < (allW ls f)[j].h.1 at this
  omega
theorem all_handles {ls : List (Int × Bool)} {f : BF} (h : WOk ls f) : (allW ls f).map (·.h) = liveHs ls := by
  unfold allW
  rw [List.map_filterMap]
  have : ∀ x ∈ liveHs ls, (rowFW f x).map (·.h) = some x := fun x hx => by
    unfold rowFW
    rw [h.get (live_iff_mem.1 hx)]; rfl
  rw [fm_congr (g := some) this, List.filterMap_some]
theorem all_load {ls : List (Int × Bool)} {f : BF} (h : WOk ls f) : loadR (gensL ls) ((allW ls f).map fun r => r.h.1) = (some ls, 0) := by
  have : (allW ls f).map (fun r => r.h.1) = ((allW ls f).map (·.h)).map (·.1) := by rw [List.map_map]; rfl
  rw [this, all_handles h]
  exact load_back h.so
theorem int_partsW : (Tryz.prog.info? 3).map (fun i => (i.zero, i.size, i.bytes)) = some (some (.int .i64 0), 1, 8) := by kernel_rfl
section
variable {G : Nat → Prop} {w0 w : World} {l : List Assn} {ls : List (Int × Bool)} {f : BF}
set_option maxHeartbeats 1000000 in
set_option maxRecDepth 100000 in
theorem wload_in {gv rv : Value} (h : In G w0 (IntsA gv (gensL ls) :: RowsA rv (allW ls f) :: l) w) (hk : WOk ls f) :
    Calls Tryz.prog 40 #[gv, rv] w fun e w' => ∃ p, e = .returned (.tuple #[.pointer (some ⟨p, 0, none⟩), .int .i64 0]) ∧ In G w0 (WorldA p ls f :: IntsA gv (gensL ls) :: RowsA rv (allW ls f) :: l) w' := by
  have HLD := Lib.hid (all_load hk)
  have hr60 := allW_len hk
  have hg60 := hk.so.1
  have HFA := Lib.hid (fTo_all hk)
  have HFN : Hid (∀ j (hj : j < (allW ls f).length), fTo f (allW ls f) j (allW ls f)[j].h.1 = none) := fun j hj => fTo_none hj
  have HROK : Hid (∀ r ∈ allW ls f, r.b.v.length = 8 ∧ beastErr r.b = 0 ∧ liveB ls r.h.1 r.h.2 = true ∧ f r.h.1 = some (r.h.2, r.b)) := fun r hr => allW_ok hk hr
  have HSL : Hid (∀ r ∈ allW ls f, 0 ≤ r.h.1 ∧ r.h.1 < 60) := fun r hr => by
    obtain ⟨s, e, hs, _⟩ := allW_slot hk hr
    omega
  have HI0 := Lib.hid h
  obtain ⟨gA, gc, rfl, _⟩ := h.intsAt
  obtain ⟨rA, rc, rfl, hrc1, hrc2, _⟩ := h.swap.rowsAt
  rw [gensL_len] at HI0 ⊢
  clear h hk
  generalize allW ls f = rs at *
  have hri : (rs.length : Int) ≤ 60 := Int.ofNat_le.2 hr60
  obtain ⟨i0, hi0, hz0, hz1, hz2⟩ := info_parts int_partsW
  go_enter Tryz.func40, Tryz.ntmps40
  go_wp2_with fail
  have HI1 : Hid (In G w0 (IntsA (.slice none 0 0) (((rs.take 0).map fun r => r.h.1)) :: IntsA (.slice gA ls.length gc) (gensL ls) :: RowsA (.slice rA rs.length rc) rs :: l) w) := HI0.out.nilRow _ _
  clear HI0
  go_loopw [20, 6] (fun i v w' => ∃ j : Nat, j ≤ rs.length ∧ i = .int .i64 j ∧ In G w0 (IntsA v (((rs.take j).map fun r => r.h.1)) :: IntsA (.slice gA ls.length gc) (gensL ls) :: RowsA (.slice rA rs.length rc) rs :: l) w') (fun i _ _ => rs.length - (intOf i).toNat)
  case atStart => exact ⟨0, Nat.zero_le _, rfl, HI1.out⟩
  case round =>
    clear HI1
    obtain ⟨j, hj, rfl, hI⟩ := hrel
    have HI := Lib.hid hI
    clear hI
    by_cases hlt : j < rs.length
    · have hji : (j : Int) < rs.length := by omega
      obtain ⟨h8, _⟩ := HROK.out _ (List.getElem_mem hlt)
      obtain ⟨g, rfl, q1⟩ := rowsAt_get HI.out.third hlt h8
      have hl11 : (rs[j]).list.length = 11 := by simp [RowM.list, Beast.list, h8]
      have HST : Hid ((rs.take (j + 1)).map (fun r => r.h.1) = (rs.take j).map (fun r => r.h.1) ++ [rs[j].h.1]) := by
        unfold Hid; rw [List.take_succ_eq_append_getElem hlt, List.map_append]; rfl
      have hcl : ((rs.take j).map fun r => r.h.1).length ≤ 60 := by rw [List.length_map, List.length_take]; omega
      have HC0 : Hid ((ints (RowM.list rs[j]))[0]? = some (.int .i64 rs[j].h.1)) := rfl
      generalize rs[j] = r at *
      generalize (rs.take j).map (fun r => r.h.1) = cur at *
      go_upto_region 7 with (fail)
      refine wp_abs (In G w0 (Box wr.heap.size 51 (ints r.list) :: IntsA u6 cur :: IntsA (.slice gA ls.length gc) (gensL ls) :: RowsA (.slice (some ⟨g, 0, none⟩) rs.length rc) rs :: l)) (HI.out.struct 51 [0, 0, 0, 0, 0, 0, 0, 0, 0, 0, 0] _ hl11) ?_
      generalize wr.heap.size = rb
      intro w2 hI2
      have q2 : w2.cell? ⟨rb, 0, none⟩ = some (.int .i64 r.h.1) := (hI2.blk.cell 0).trans HC0.out
      have HI2 := Lib.hid hI2.drop
      have HOW := Lib.hid hI2.drop.rowAt
      generalize r.h.1 = s at *
      clear hI2 q1 HI
      go_wp2_with (at_builtin; go_loud (refine wpList_append1_at rfl _ _ _ rfl 0 3 i0 _ 1 8 Tryz.underlying22 hi0 hz0 hz1 hz2 rfl (by decide) _ cur.length _ rfl HOW.out [.int .i64 s] rfl rfl (by simp [Value.oneCell']) (by unfold maxLen; omega) (by omega) (Nat.zero_le _) ?_))
      intro v' w3 hown hg hat
      have hI3 := In.append1 HI2.out hown hg hat
      have HI3 : Hid (In G w0 (IntsA v' (cur ++ [s]) :: IntsA (.slice gA ls.length gc) (gensL ls) :: RowsA (.slice (some ⟨g, 0, none⟩) rs.length rc) rs :: l) w3) := by
        unfold IntsA
        rw [List.length_append, List.map_append]
        exact hI3
      clear hown hg hat hI3 q2 HI2 HOW
      go_wp2_with fail
      go_roundw
      case rel => exact ⟨j + 1, by omega, by go_num, by rw [HST.out]; exact HI3.out⟩
      case measure => simp [intOf]; omega
    · have hjm : j = rs.length := by omega
      subst hjm
      rw [List.take_length] at HI
      obtain ⟨lA, lc, rfl, hlr⟩ := HI.out.intsAt
      obtain ⟨gA', gc', e0, hgr⟩ := HI.out.swap.intsAt
      rw [gensL_len] at e0
      injection e0 with e1 e2 e3
      subst e1; subst e3
      have hll : (rs.map fun r => r.h.1).length ≤ maxLen := by rw [List.length_map]; unfold maxLen; omega
      have hgl : (gensL ls).length ≤ maxLen := by rw [gensL_len]; unfold maxLen; omega
      have HSL2 := Lib.hid (load_any gA lA gc lc (gensL ls) (rs.map fun r => r.h.1) wr hgr hlr hgl hll)
      rw [HLD.out, gensL_len, List.length_map] at HSL2
      clear hgr hlr hll hgl e2
      go_wp2_with fail
      refine HSL2.out.mono ?_
      rintro e w2 ⟨hb2, p1, rfl, hs1⟩
      have HI2 : Hid (In G w0 (SlotsA p1 ls :: IntsA (.slice gA ls.length gc) (gensL ls) :: RowsA (.slice rA rs.length rc) rs :: l) w2) := HI.out.drop.new (A := SlotsA p1 ls) hb2 hs1
      clear hb2 hs1 HSL2 HI
      go_wp2_with fail
      refine (wnew_in HI2.out).mono ?_
      rintro e w3 ⟨p, rfl, hI3⟩
      obtain ⟨sp, tb, pb, T, hT, hI4⟩ := hI3.openWorld
      have c1 : w3.cell? ⟨p, 0, none⟩ = some (.pointer (some ⟨sp, 0, none⟩)) := hI4.blk.cell 0
      have c2 : w3.frozen? ⟨p, 0, none⟩ = false := hI4.blk.frozen _
      have HSET : Hid (∀ W, W = w3.setCell ⟨p, 0, none⟩ (.pointer (some ⟨p1, 0, none⟩)) → In G w0 (WorldS p p1 ls (fun _ => none) :: IntsA (.slice gA ls.length gc) (gensL ls) :: RowsA (.slice rA rs.length rc) rs :: l) W) := fun W e => by
        rw [e]
        have h1 := In.set hI4 0 (.pointer (some ⟨p1, 0, none⟩))
        have h2 : In G w0 (Box p 99 #[.pointer (some ⟨p1, 0, none⟩), .map (some tb), .map (some pb)] :: SlotsA p1 ls :: PtrMap tb (T.ks.map fun K => (K, T.pt K)) :: PlaceMap pb T.ps :: ((SlotsA sp [] :: IntsA (.slice gA ls.length gc) (gensL ls) :: RowsA (.slice rA rs.length rc) rs :: l) ++ T.ks.map (tblOf T))) (w3.setCell ⟨p, 0, none⟩ (.pointer (some ⟨p1, 0, none⟩))) := h1.reorder 5 [0, 4, 2, 3, 1] rfl (by simp)
        exact (In.shutWorldS hT h2).swap.drop
      clear hI3 hI4 hT HI2
      go_upto_region 14 with (fail)
      refine wp_abs (In G w0 (WorldS p p1 ls (fTo f rs 0) :: IntsA (.slice gA ls.length gc) (gensL ls) :: RowsA (.slice rA rs.length rc) rs :: l)) (by rw [fTo_zero]; exact HSET.out _ rfl) ?_
      clear c1 c2 HSET
      intro w4 hI4
      have HI4 := Lib.hid hI4
      clear hI4
      go_wp2_with fail
      go_loopw [47] (fun i w' => ∃ j : Nat, j ≤ rs.length ∧ i = .int .i64 j ∧ In G w0 (WorldS p p1 ls (fTo f rs j) :: IntsA (.slice gA ls.length gc) (gensL ls) :: RowsA (.slice rA rs.length rc) rs :: l) w') (fun i _ => rs.length - (intOf i).toNat)
      case atStart => exact ⟨0, Nat.zero_le _, rfl, HI4.out⟩
      case round =>
        clear HI4
        obtain ⟨j, hj, rfl, hI⟩ := hrel
        have HI := Lib.hid hI
        clear hI
        by_cases hlt : j < rs.length
        · have hji : (j : Int) < rs.length := by omega
          obtain ⟨h8, hbe, hlv, hfr⟩ := HROK.out _ (List.getElem_mem hlt)
          have hsl := HSL.out _ (List.getElem_mem hlt)
          obtain ⟨g, rfl, q1⟩ := rowsAt_get HI.out.third hlt h8
          have hfn := HFN.out j hlt
          have HST := Lib.hid (fTo_succ hlt hfr)
          clear hfr
          generalize rs[j] = r at *
          generalize fTo f rs j = fj at *
          obtain ⟨⟨s, gen⟩, b⟩ := r
          simp only at h8 hbe hlv hsl hfn HST
          have hb9 : b.list.length = 9 := by simp [Beast.list, h8]
          have hl11 : (RowM.list ⟨(s, gen), b⟩).length = 11 := by simp [RowM.list, Beast.list, h8]
          have HFN2 := Lib.hid hfn
          have HOK : Hid (beastErr b = 0 ∧ b.v.length = 8 ∧ 0 ≤ s ∧ s < 60) := ⟨hbe, h8, hsl.1, hsl.2⟩
          have HLV := Lib.hid hlv
          have HBE := Lib.hid hbe
          clear hfn hlv hbe hsl
          go_upto_region 17 with (fail)
          refine wp_abs (In G w0 (Box wr.heap.size 51 (ints (RowM.list ⟨(s, gen), b⟩)) :: WorldS p p1 ls fj :: IntsA (.slice gA ls.length gc) (gensL ls) :: RowsA (.slice (some ⟨g, 0, none⟩) rs.length rc) rs :: l)) (HI.out.struct 51 [0, 0, 0, 0, 0, 0, 0, 0, 0, 0, 0] _ hl11) ?_
          generalize wr.heap.size = rb
          intro w5 hI5
          have HRB : Hid (∀ W, In G w0 (Box rb 51 (ints (RowM.list ⟨(s, gen), b⟩)) :: WorldS p p1 ls fj :: IntsA (.slice gA ls.length gc) (gensL ls) :: RowsA (.slice (some ⟨g, 0, none⟩) rs.length rc) rs :: l) W → row? W rb 0 2 = some (ints [s, gen]) ∧ row? W rb 2 9 = some (ints b.list)) := fun W hW => by
            refine ⟨by rw [hW.blk.row_ints 0 2 (by omega)]; rfl, ?_⟩
            rw [hW.blk.row_ints 2 9 (by omega)]
            show some (ints (b.list.take 9)) = _
            rw [List.take_of_length_le (by omega)]
          obtain ⟨q2, q3⟩ := HRB.out _ hI5
          obtain ⟨tb', pb', T', hT', hI6⟩ := hI5.swap.openWorldS
          obtain ⟨F1, hS⟩ := hI6.swap.head
          have HL := Lib.hid (live_any p1 ls F1 s gen w5 hS)
          rw [HLV.out] at HL
          have HI5 := Lib.hid hI5
          clear hI5 hI6 hS hT' q1 HI
          go_wp2_with fail
          refine HL.out.mono ?_
          rintro e w6 ⟨rfl, hb6⟩
          have HI6 := Lib.hid (HI5.out.below hb6)
          obtain ⟨q4, q5⟩ := HRB.out _ HI6.out
          clear hb6 HL HI5 q2 q3
          go_wp2_with fail
          refine (checkBeast_any b h8 w6).mono ?_
          rintro e w7 ⟨rfl, hb7⟩
          rw [HBE.out]
          have HI7 := Lib.hid (HI6.out.below hb7)
          obtain ⟨q6, q7⟩ := HRB.out _ HI7.out
          clear hb7 HI6 q4 q5
          go_wp2_with fail
          refine (layS_in HI7.out.swap s gen b HFN2.out HOK.out).mono ?_
          rintro e w8 ⟨rfl, hI8⟩
          rw [← HST.out] at hI8
          have HI8 := Lib.hid hI8.swap.drop
          clear hI8 HI7 q6 q7
          go_wp2_with fail
          go_roundw
          case rel => exact ⟨j + 1, by omega, by go_num, HI8.out⟩
          case measure => simp [intOf]; omega
        · have hjm : j = rs.length := by omega
          subst hjm
          rw [HFA.out] at HI
          have HI9 := Lib.hid HI.out.worldOf
          clear HI
          go_wp2_with fail
          go_ret2
          exact ⟨p, rfl, HI9.out⟩
end

end Go.Proofs.YtpgcghnlepnoiaaGreatDoor

/-
  The contract of world.Load at whatever is read.
-/
namespace Go.Proofs.YtpgcghnlepnoiaaGreatDoor
open Go.RowKit

/-- rows that are read -/
def RowsRd (w : World) (B : Nat) (A : Option Addr) (rs : List RowM) : Prop := Chunks w B 11 A (rs.map RowM.list)
theorem RowsRd.len8 {w : World} {B : Nat} {A : Option Addr} {rs : List RowM} (h : RowsRd w B A rs) {r : RowM} (hr : r ∈ rs) : r.b.v.length = 8 := by
  have := h.1 _ (List.mem_map.2 ⟨r, hr, rfl⟩)
  simp [RowM.list, Beast.list] at this
  omega
theorem RowsRd.at_ {w : World} {B : Nat} {A : Option Addr} {rs : List RowM} (h : RowsRd w B A rs) {k : Nat} (hk : k < rs.length) :
    ∃ b o, A = some ⟨b, o, none⟩ ∧ b < B ∧ row? w b (o + k * 11) 11 = some (ints (RowM.list rs[k])) := by
  obtain ⟨b, o, e, hb, hr⟩ := Chunks.at_ h (k := k) (by simpa using hk)
  exact ⟨b, o, e, hb, by simpa using hr⟩
def WLoadEnd (w : World) (x : Option (List (Int × Bool) × BF) × Int) (e : Ending) (w' : World) : Prop :=
  Below w.heap.size w w' ∧ match x with
    | (none, n) => e = .returned (.tuple #[.pointer none, .int .i64 n])
    | (some (ls, f), n) => ∃ p, e = .returned (.tuple #[.pointer (some ⟨p, 0, none⟩), .int .i64 n]) ∧ (WorldA p ls f).at_ w' (fun k => w.heap.size ≤ k)

set_option maxHeartbeats 1000000 in
set_option maxRecDepth 100000 in
theorem wloadA_any (gA rA : Option Addr) (gc rc : Nat) (gens : List Int) (rs : List RowM) (w : World) (hg : ReadsI w w.heap.size gA gens.length gens) (hr : RowsRd w w.heap.size rA rs) (hgl : gens.length ≤ maxLen) (hrl : rs.length ≤ maxLen) :
    Calls Tryz.prog 40 #[.slice gA gens.length gc, .slice rA rs.length rc] w (WLoadEnd w (loadWR gens rs)) := by
  have HG := Lib.hid hg
  have HR := Lib.hid hr
  have HGL := Lib.hid hgl
  have hri : (rs.length : Int) ≤ 9223372036854775807 := by unfold maxLen at hrl; omega
  clear hg hr hgl hrl
  by_cases h60 : 60 < rs.length
  · have HE : Hid (loadWR gens rs = (none, 2)) := by unfold Hid loadWR; rw [if_pos h60]
    have h60' : (60 : Int) < rs.length := by omega
    go_enter Tryz.func40, Tryz.ntmps40
    go_wp2_with fail
    go_ret2
    rw [HE.out]
    exact ⟨Below.refl _ _, rfl⟩
  have h60i : (rs.length : Int) ≤ 60 := by omega
  have hr60 : rs.length ≤ 60 := by omega
  have H60 := Lib.hid h60
  clear h60 hri
  obtain ⟨i0, hi0, hz0, hz1, hz2⟩ := info_parts int_partsW
  go_enter Tryz.func40, Tryz.ntmps40
  go_wp2_with fail
  have HI1 : Hid (In (fun _ => False) w (IntsA (.slice none 0 0) (((rs.take 0).map fun r => r.h.1)) :: []) w) := (In.nil w _).nilRow _ _
  go_loopw [20, 6] (fun i v w' => ∃ j : Nat, j ≤ rs.length ∧ i = .int .i64 j ∧ In (fun _ => False) w (IntsA v (((rs.take j).map fun r => r.h.1)) :: []) w') (fun i _ _ => rs.length - (intOf i).toNat)
  case atStart => exact ⟨0, Nat.zero_le _, rfl, HI1.out⟩
  case round =>
    clear HI1
    obtain ⟨j, hj, rfl, hI⟩ := hrel
    have HI := Lib.hid hI
    clear hI
    by_cases hlt : j < rs.length
    · have hji : (j : Int) < rs.length := by omega
      have h8 := HR.out.len8 (List.getElem_mem hlt)
      obtain ⟨g, o, rfl, hgl, q1⟩ := RowsRd.at_ (HR.out.below HI.out.below0) hlt
      have hl11 : (rs[j]).list.length = 11 := by simp [RowM.list, Beast.list, h8]
      have HST : Hid ((rs.take (j + 1)).map (fun r => r.h.1) = (rs.take j).map (fun r => r.h.1) ++ [rs[j].h.1]) := by
        unfold Hid; rw [List.take_succ_eq_append_getElem hlt, List.map_append]; rfl
      have hcl : ((rs.take j).map fun r => r.h.1).length ≤ 60 := by rw [List.length_map, List.length_take]; omega
      have HC0 : Hid ((ints (RowM.list rs[j]))[0]? = some (.int .i64 rs[j].h.1)) := rfl
      generalize rs[j] = r at *
      generalize (rs.take j).map (fun r => r.h.1) = cur at *
      go_upto_region 7 with (fail)
      refine wp_abs (In (fun _ => False) w (Box wr.heap.size 51 (ints r.list) :: IntsA u6 cur :: [])) (HI.out.struct 51 [0, 0, 0, 0, 0, 0, 0, 0, 0, 0, 0] _ hl11) ?_
      generalize wr.heap.size = rb
      intro w2 hI2
      have q2 : w2.cell? ⟨rb, 0, none⟩ = some (.int .i64 r.h.1) := (hI2.blk.cell 0).trans HC0.out
      have HI2 := Lib.hid hI2.drop
      have HOW := Lib.hid hI2.drop.rowAt
      generalize r.h.1 = s at *
      clear hI2 q1 HI
      go_wp2_with (at_builtin; go_loud (refine wpList_append1_at rfl _ _ _ rfl 0 3 i0 _ 1 8 Tryz.underlying22 hi0 hz0 hz1 hz2 rfl (by decide) _ cur.length _ rfl HOW.out [.int .i64 s] rfl rfl (by simp [Value.oneCell']) (by unfold maxLen; omega) (by omega) (Nat.zero_le _) ?_))
      intro v' w3 hown hg hat
      have hI3 := In.append1 HI2.out hown hg hat
      have HI3 : Hid (In (fun _ => False) w (IntsA v' (cur ++ [s]) :: []) w3) := by
        unfold IntsA
        rw [List.length_append, List.map_append]
        exact hI3
      clear hown hg hat hI3 q2 HI2 HOW
      go_wp2_with fail
      go_roundw
      case rel => exact ⟨j + 1, by omega, by go_num, by rw [HST.out]; exact HI3.out⟩
      case measure => simp [intOf]; omega
    · have hjm : j = rs.length := by omega
      subst hjm
      rw [List.take_length] at HI
      obtain ⟨lA, lc, rfl, hlr⟩ := HI.out.intsAt
      have hgr : ReadsI wr wr.heap.size gA gens.length gens := (HG.out.below HI.out.below0).more HI.out.size
      have hll : (rs.map fun r => r.h.1).length ≤ maxLen := by rw [List.length_map]; unfold maxLen; omega
      have HSL2 := Lib.hid (load_any gA lA gc lc gens (rs.map fun r => r.h.1) wr hgr hlr HGL.out hll)
      have HW : Hid (loadWR gens rs = match loadR gens (rs.map fun r => r.h.1) with
        | (none, n) => (none, n)
        | (some ls, _) => if (rowsLd ls (fun _ => none) rs).2 = 0 then (some (ls, (rowsLd ls (fun _ => none) rs).1), 0) else (none, (rowsLd ls (fun _ => none) rs).2)) := by
        exact if_neg H60.out
      rw [List.length_map] at HSL2
      clear hgr hlr hll
      generalize hLD : loadR gens (rs.map fun r => r.h.1) = x at *
      obtain ⟨ols, n⟩ := x
      cases ols with
      | none =>
        have hn := loadR_none hLD
        clear hLD
        have HW2 : Hid (loadWR gens rs = (none, n)) := HW.out
        clear HW
        go_wp2_with fail
        refine HSL2.out.mono ?_
        rintro e w2 ⟨hb2, rfl⟩
        have HB2 : Hid (Below w.heap.size w w2) := HI.out.below0.trans (hb2.mono HI.out.size)
        clear hb2 HSL2
        rcases hn with rfl | rfl | rfl | rfl
        all_goals
          go_wp2_with fail
          go_ret2
          rw [HW2.out]
          exact ⟨HB2.out, rfl⟩
      | some ls =>
      have HLS := Lib.hid (load_slots hLD)
      obtain ⟨rfl, _⟩ := loadR_some hLD
      clear hLD
      have HW2 : Hid (loadWR gens rs = if (rowsLd ls (fun _ => none) rs).2 = 0 then (some (ls, (rowsLd ls (fun _ => none) rs).1), 0) else (none, (rowsLd ls (fun _ => none) rs).2)) := HW.out
      clear HW
      go_wp2_with fail
      refine HSL2.out.mono ?_
      rintro e w2 ⟨hb2, p1, rfl, hs1⟩
      have HI2 : Hid (In (fun _ => False) w (SlotsA p1 ls :: []) w2) := HI.out.drop.new (A := SlotsA p1 ls) hb2 hs1
      clear hb2 hs1 HSL2 HI
      go_wp2_with fail
      refine (wnew_in HI2.out).mono ?_
      rintro e w3 ⟨p, rfl, hI3⟩
      obtain ⟨sp, tb, pb, T, hT, hI4⟩ := hI3.openWorld
      have c1 : w3.cell? ⟨p, 0, none⟩ = some (.pointer (some ⟨sp, 0, none⟩)) := hI4.blk.cell 0
      have c2 : w3.frozen? ⟨p, 0, none⟩ = false := hI4.blk.frozen _
      have HSET : Hid (∀ W, W = w3.setCell ⟨p, 0, none⟩ (.pointer (some ⟨p1, 0, none⟩)) → In (fun _ => False) w (WorldS p p1 ls (fun _ => none) :: []) W) := fun W e => by
        rw [e]
        have h1 := In.set hI4 0 (.pointer (some ⟨p1, 0, none⟩))
        have h2 : In (fun _ => False) w (Box p 99 #[.pointer (some ⟨p1, 0, none⟩), .map (some tb), .map (some pb)] :: SlotsA p1 ls :: PtrMap tb (T.ks.map fun K => (K, T.pt K)) :: PlaceMap pb T.ps :: ((SlotsA sp [] :: []) ++ T.ks.map (tblOf T))) (w3.setCell ⟨p, 0, none⟩ (.pointer (some ⟨p1, 0, none⟩))) := h1.reorder 5 [0, 4, 2, 3, 1] rfl (by simp)
        exact (In.shutWorldS hT h2).swap.drop
      clear hI3 hI4 hT HI2
      go_upto_region 14 with (fail)
      refine wp_abs (In (fun _ => False) w (WorldS p p1 ls (rowsLd ls (fun _ => none) (rs.take 0)).1 :: [])) (HSET.out _ rfl) ?_
      clear c1 c2 HSET
      intro w4 hI4
      have HI4 := Lib.hid hI4
      clear hI4
      go_wp2_with fail
      go_loopw [47] (fun i w' => ∃ j : Nat, j ≤ rs.length ∧ i = .int .i64 j ∧ (rowsLd ls (fun _ => none) (rs.take j)).2 = 0 ∧ In (fun _ => False) w (WorldS p p1 ls (rowsLd ls (fun _ => none) (rs.take j)).1 :: []) w') (fun i _ => rs.length - (intOf i).toNat)
      case atStart => exact ⟨0, Nat.zero_le _, rfl, rfl, HI4.out⟩
      case round =>
        clear HI4
        obtain ⟨j, hj, rfl, hE, hI⟩ := hrel
        have HE := Lib.hid hE
        have HI := Lib.hid hI
        clear hI hE
        by_cases hlt : j < rs.length
        · have hji : (j : Int) < rs.length := by omega
          have h8 := HR.out.len8 (List.getElem_mem hlt)
          have hsl := HLS.out.2.1 _ (List.getElem_mem hlt)
          obtain ⟨g, o, rfl, hgl, q1⟩ := RowsRd.at_ (HR.out.below HI.out.below0) hlt
          have HSN := Lib.hid (rowsLd_snoc ls rs[j] _ _ HE.out)
          have HTK : Hid (rs.take (j + 1) = rs.take j ++ [rs[j]]) := List.take_succ_eq_append_getElem hlt
          have HDR : Hid ((rowsLd ls (fun _ => none) (rs.take j ++ [rs[j]])).2 ≠ 0 → loadWR gens rs = (none, (rowsLd ls (fun _ => none) (rs.take j ++ [rs[j]])).2)) := fun hne => by
            have h1 := rowsLd_err ls (rs.drop (j + 1)) (rs.take (j + 1)) (fun _ => none) (by rw [HTK.out]; exact hne)
            rw [List.take_append_drop, HTK.out] at h1
            rw [HW2.out, h1, if_neg hne]
          have hfn : (rowsLd ls (fun _ => none) (rs.take j)).1 rs[j].h.1 = none := by
            rw [rowsLd_far]
            intro r hr e
            obtain ⟨i, hi, rfl⟩ := List.mem_iff_getElem.1 hr
            rw [List.length_take] at hi
            have hn := HLS.out.1
            have := List.pairwise_iff_getElem.1 (List.nodup_iff_pairwise_ne.1 hn) i j (by rw [List.length_map]; omega) (by rw [List.length_map]; omega) (by omega)
            rw [List.getElem_map, List.getElem_map] at this
            rw [List.getElem_take] at e
            exact this e
          generalize rs[j] = r at *
          generalize hfj : rowsLd ls (fun _ => none) (rs.take j) = fj at *
          obtain ⟨fj, ej⟩ := fj
          obtain ⟨⟨s, gen⟩, b⟩ := r
          simp only at h8 hsl hfn HSN
          have hb9 : b.list.length = 9 := by simp [Beast.list, h8]
          have hl11 : (RowM.list ⟨(s, gen), b⟩).length = 11 := by simp [RowM.list, Beast.list, h8]
          have HFN2 := Lib.hid hfn
          clear hfn
          go_upto_region 17 with (fail)
          refine wp_abs (In (fun _ => False) w (Box wr.heap.size 51 (ints (RowM.list ⟨(s, gen), b⟩)) :: WorldS p p1 ls fj :: [])) (HI.out.struct 51 [0, 0, 0, 0, 0, 0, 0, 0, 0, 0, 0] _ hl11) ?_
          generalize wr.heap.size = rb
          intro w5 hI5
          have HRB : Hid (∀ W, In (fun _ => False) w (Box rb 51 (ints (RowM.list ⟨(s, gen), b⟩)) :: WorldS p p1 ls fj :: []) W → row? W rb 0 2 = some (ints [s, gen]) ∧ row? W rb 2 9 = some (ints b.list)) := fun W hW => by
            refine ⟨by rw [hW.blk.row_ints 0 2 (by omega)]; rfl, ?_⟩
            rw [hW.blk.row_ints 2 9 (by omega)]
            show some (ints (b.list.take 9)) = _
            rw [List.take_of_length_le (by omega)]
          obtain ⟨q2, q3⟩ := HRB.out _ hI5
          obtain ⟨tb', pb', T', hT', hI6⟩ := hI5.swap.openWorldS
          obtain ⟨F1, hS⟩ := hI6.swap.head
          have HL := Lib.hid (live_any p1 ls F1 s gen w5 hS)
          have HI5 := Lib.hid hI5
          clear hI5 hI6 hS hT' q1 HI
          cases hlv : liveB ls s gen with
          | false =>
            have HX : Hid (loadWR gens rs = (none, 7)) := by
              have h1 := HSN.out
              rw [if_pos hlv] at h1
              have h2 := HDR.out (by rw [h1]; exact (by decide : (7 : Int) ≠ 0))
              rw [h1] at h2
              exact h2
            rw [hlv] at HL
            clear hlv HSN HDR
            go_wp2_with fail
            refine HL.out.mono ?_
            rintro e w6 ⟨rfl, hb6⟩
            have HB6 : Hid (Below w.heap.size w w6) := (HI5.out.below hb6).below0
            clear hb6 HL HI5 q2 q3
            go_wp2_with fail
            go_ret2
            rw [HX.out]
            exact ⟨HB6.out, rfl⟩
          | true =>
          rw [hlv] at HL
          go_wp2_with fail
          refine HL.out.mono ?_
          rintro e w6 ⟨rfl, hb6⟩
          have HI6 := Lib.hid (HI5.out.below hb6)
          obtain ⟨q4, q5⟩ := HRB.out _ HI6.out
          have HLV := Lib.hid hlv
          clear hb6 HL HI5 q2 q3 hlv
          go_wp2_with fail
          refine (checkBeast_any b h8 w6).mono ?_
          rintro e w7 ⟨rfl, hb7⟩
          have HI7 := Lib.hid (HI6.out.below hb7)
          obtain ⟨q6, q7⟩ := HRB.out _ HI7.out
          clear hb7 HI6 q4 q5
          by_cases hbe : beastErr b = 0
          rotate_left
          · have HX : Hid (loadWR gens rs = (none, beastErr b)) := by
              have h1 := HSN.out
              rw [if_neg (by rw [HLV.out]; simp), if_pos hbe] at h1
              have h2 := HDR.out (by rw [h1]; exact hbe)
              rw [h1] at h2
              exact h2
            have hv := beastErr_val b hbe
            clear hbe HSN HDR q6 q7 HRB
            have HB7 : Hid (Below w.heap.size w w7) := HI7.out.below0
            clear HI7
            generalize beastErr b = eb at *
            rcases hv with rfl | rfl
            all_goals
              go_wp2_with fail
              go_ret2
              rw [HX.out]
              exact ⟨HB7.out, rfl⟩
          have HBE := Lib.hid hbe
          rw [hbe]
          have HOK : Hid (beastErr b = 0 ∧ b.v.length = 8 ∧ 0 ≤ s ∧ s < 60) := ⟨hbe, h8, hsl.1, hsl.2⟩
          clear hbe hsl
          go_wp2_with fail
          refine (layS_in HI7.out.swap s gen b HFN2.out HOK.out).mono ?_
          rintro e w8 ⟨rfl, hI8⟩
          have HST : Hid (rowsLd ls (fun _ => none) (rs.take (j + 1)) = (updB fj s (some (gen, b)), 0)) := by
            have h1 := HSN.out
            rw [if_neg (by rw [HLV.out]; simp), if_neg (by rw [HBE.out]; simp)] at h1
            unfold Hid
            rw [HTK.out, h1]
          have HI8 := Lib.hid hI8.swap.drop
          clear hI8 HI7 q6 q7 HSN HDR
          go_wp2_with fail
          go_roundw
          case rel => exact ⟨j + 1, by omega, by go_num, by rw [HST.out], by rw [HST.out]; exact HI8.out⟩
          case measure => simp [intOf]; omega
        · have hjm : j = rs.length := by omega
          subst hjm
          rw [List.take_length] at HI HE
          have HX : Hid (loadWR gens rs = (some (ls, (rowsLd ls (fun _ => none) rs).1), 0)) := by
            have h1 := HW2.out
            rw [if_pos HE.out] at h1
            exact h1
          have HI9 := Lib.hid HI.out.worldOf
          clear HI
          go_wp2_with fail
          go_ret2
          rw [HX.out]
          exact ⟨HI9.out.below0, p, rfl, HI9.out.fresh⟩

end Go.Proofs.YtpgcghnlepnoiaaGreatDoor

/-
  The contract of zoo.State.
-/
namespace Go.Proofs.YtpgcghnlepnoiaaGreatDoor
open Go.RowKit

section
variable {G : Nat → Prop} {w0 w : World} {l : List Assn} {p : Nat} {z : ZS}
set_option maxHeartbeats 4000000 in
set_option maxRecDepth 100000 in
theorem zstate_in (h : In G w0 (ZooA p z :: l) w) (hk : ZOk z) :
    Calls Tryz.prog 14 #[ptr p] w fun e w' => ∃ gv rv bv, e = .returned (.agg #[gv, rv, bv]) ∧ In G w0 (IntsA gv (gensL z.ls) :: RowsA rv z.rows :: RowB bv z.B :: ZooA p z :: l) w' := by
  have H0 := Lib.hid h
  have HK := Lib.hid hk
  clear h hk
  go_enter Tryz.func14, Tryz.ntmps14
  go_upto_region 1 with (fail)
  refine wp_abs (In G w0 (ZooA p z :: Box w.heap.size 26 #[.slice none 0 0, .slice none 0 0, .slice none 0 0] :: l)) (H0.out.alloc 26 #[.slice none 0 0, .slice none 0 0, .slice none 0 0]).swap ?_
  generalize w.heap.size = sb
  intro w1 hI1
  obtain ⟨wp, fp, m, hm, hf, ha, hI2⟩ := hI1.openZoo
  obtain ⟨sp, hI3⟩ := hI2.swap.worldS
  have c0 : w1.cell? ⟨p, 0, none⟩ = some (ptr wp) := hI2.blk.cell 0
  have HM := Lib.hid hm
  have hml : m.length ≤ 1099511627776 := by have := bonds_len m; have := HK.out.len; rw [hm] at *; omega
  have HML := Lib.hid hml
  have HI3 := Lib.hid hI3
  clear hI1 hI2 hI3 hm hf ha H0 hml
  have HR := Lib.hid (rowsS_in HI3.out HK.out.w zeroQ)
  rw [zeroQ_err, if_pos rfl, rows_all matchZero, zeroQ_list] at HR
  go_wp2_with fail
  refine HR.out.mono ?_
  rintro e w2 ⟨rv, rfl, hI⟩
  obtain ⟨A3, c3, rfl, _, _, _⟩ := own_form hI.rowAt
  have HF : Hid (∀ {W : World} {L : List Assn}, In G w0 (WorldS wp sp z.ls z.f :: zBox p wp fp :: FamA fp m :: Box sb 26 #[.slice none 0 0, .slice none 0 0, .slice none 0 0] :: L) W → W.cell? ⟨p, 0, none⟩ = some (ptr wp) ∧ W.cell? ⟨p, 1, none⟩ = some (ptr fp) ∧ W.cell? ⟨wp, 0, none⟩ = some (ptr sp) ∧ fits W sb 0 3 = true) := fun {W L} h =>
    ⟨h.swap.blk.cell 0, h.swap.blk.cell 1, h.slotPtr, h.fourth.blk.fits 0 3 (by simp)⟩
  have HI4 : Hid (In G w0 (WorldS wp sp z.ls z.f :: zBox p wp fp :: FamA fp m :: Box sb 26 #[.slice none 0 0, .slice none 0 0, .slice none 0 0] :: RowsA (.slice A3 z.rows.length c3) z.rows :: l) w2) := hI.to5
  obtain ⟨s1, s2, s3, s4⟩ := HF.out HI4.out
  have HNE : Hid (p ≠ sb ∧ wp ≠ sb) := by
    refine ⟨HI4.out.drop.swap.drop.apart, ?_⟩
    obtain ⟨tb, pb, T, hT, hI5⟩ := HI4.out.openWorldS
    simp only [List.cons_append] at hI5
    exact hI5.swap.drop.swap.drop.swap.drop.swap.drop.swap.drop.apart
  clear hI HR HI3 c0
  have hl60 := Lib.hid HK.out.w.so.1
  go_upto_region 2 with (fail)
  go_region_held3 (fun W => W.cell? ⟨p, 0, none⟩ = some (ptr wp) ∧ W.cell? ⟨p, 1, none⟩ = some (ptr fp) ∧ W.cell? ⟨wp, 0, none⟩ = some (ptr sp) ∧ fits W sb 0 3 = true)
    (first | (refine ⟨?_, ?_, ?_, ?_⟩ <;> assumption) | (refine ⟨cell_farV HNE.out.1 ?_, cell_farV HNE.out.1 ?_, cell_farV HNE.out.2 ?_, ?_⟩; all_goals first | assumption | exact fits_againV (by assumption) rfl))
    (first
      | (go_at_call 38; refine (gensS_in HIB.out hl60.out).mono ?_; rintro e w5 ⟨A5, c5, rfl, hI5⟩; have hI5 := hI5.to5; obtain ⟨t1, t2, t3, t4⟩ := HF.out hI5; have HIZ := Lib.hid hI5; clear hI5)
      | (go_at_call 39; refine (fbonds_in HIG.out HML.out).mono ?_; rintro e w5 ⟨bv, rfl, hI5⟩; rw [HM.out] at hI5; obtain ⟨A6, c6, rfl, _, _, _⟩ := own_form hI5.rowAt; have hI5 := hI5.to5.to3; obtain ⟨t1, t2, t3, t4⟩ := HF.out hI5; have HIZ := Lib.hid (hI5.reorder 6 [0, 1, 2, 3, 5, 4] rfl (by simp)); clear hI5)
      | (go_at_call 38; refine (gensS_in HI4.out.drew hl60.out).mono ?_; rintro e w4 ⟨A4, c4, rfl, hI5⟩; have hI5 := hI5.to5; obtain ⟨u1, u2, u3, u4⟩ := HF.out hI5; have HIG := Lib.hid hI5.third; clear hI5)
      | (go_at_call 39; refine (fbonds_in HI4.out.drew.third HML.out).mono ?_; rintro e w4 ⟨bv, rfl, hI5⟩; rw [HM.out] at hI5; obtain ⟨A6, c6, rfl, _, _, _⟩ := own_form hI5.rowAt; have hI5 := hI5.to5.to3; obtain ⟨u1, u2, u3, u4⟩ := HF.out hI5; have HIB := Lib.hid hI5; clear hI5))
  all_goals
    have HE := fun gv bv => In.putV (In.fourth HIZ.out) [gv, .slice A3 z.rows.length c3, bv] rfl
    go_wp2_with fail
    refine bodyPost_row rfl sb 26 _ _ rfl (HE _ _).blk Tryz.underlying26 rfl state_info rfl ?_
    exact ⟨_, _, _, rfl, (In.shutZoo HM.out (HE _ _).drop.worldOf.swap).reorder 4 [1, 3, 2, 0] rfl (by simp)⟩
end

end Go.Proofs.YtpgcghnlepnoiaaGreatDoor

/-
  The contract of vivariumref.Same, at two states that are one.
-/
namespace Go.Proofs.YtpgcghnlepnoiaaGreatDoor
open Go.RowKit

section
variable {G : Nat → Prop} {w0 w : World} {l : List Assn} {gv rv bv gv' rv' bv' : Value} {gs : List Int} {rs : List RowM} {bs : List (Hd × Hd)}
theorem In.fifthS {A B C D E : Assn} (h : In G w0 (A :: B :: C :: D :: E :: l) w) : In G w0 (E :: A :: B :: C :: D :: l) w := h.reorder 5 [4, 0, 1, 2, 3] rfl (by simp)
set_option maxHeartbeats 2000000 in
set_option maxRecDepth 100000 in
theorem same_in (h : In G w0 (IntsA gv gs :: RowsA rv rs :: RowB bv bs :: IntsA gv' gs :: RowsA rv' rs :: RowB bv' bs :: l) w) :
    Calls Tryz.prog 9 #[.agg #[gv, rv, bv], .agg #[gv', rv', bv']] w fun e w' => e = .returned (.bool true) ∧ Below w.heap.size w w' := by
  obtain ⟨A1, c1, rfl, hl1, hl2, _⟩ := own_form h.rowAt
  obtain ⟨A2, c2, rfl, hl3, hl4, _⟩ := own_form (h.nth 3 (by simp)).rowAt
  have hn : gs.length ≤ maxLen := by omega
  have H0 := Lib.hid h
  clear h hl1 hl2 hl3 hl4
  go_enter Tryz.func9, Tryz.ntmps9
  go_upto_region 1 with (fail)
  refine wp_abs (fun w' => Blk w' (w.heap.size + 1) 26 #[.slice A2 gs.length c2, rv', bv'] ∧ Blk w' w.heap.size 26 #[.slice A1 gs.length c1, rv, bv] ∧ Below w.heap.size w w') ⟨by
    have := Blk.new (w.alloc (.cells #[.slice A1 gs.length c1, rv, bv] 26)) 26 #[.slice A2 gs.length c2, rv', bv']
    rwa [World.size_alloc] at this, (Blk.new w _ _).alloc _, ((Below.refl _ _).alloc (Nat.le_refl _) _).alloc (by simp) _⟩ ?_
  generalize w.heap.size + 1 = s2
  generalize hs1 : w.heap.size = s1
  rintro w1 ⟨hB2, hB1, hb⟩
  have a0 : w1.cell? ⟨s1, 0, none⟩ = some (.slice A1 gs.length c1) := hB1.cell 0
  have a1 : w1.cell? ⟨s1, 1, none⟩ = some rv := hB1.cell 1
  have b0 : w1.cell? ⟨s2, 0, none⟩ = some (.slice A2 gs.length c2) := hB2.cell 0
  have b1 : w1.cell? ⟨s2, 1, none⟩ = some rv' := hB2.cell 1
  rw [← hs1] at hb
  have hI := H0.out.below hb
  have HEG := Lib.hid (eqG_in hn hI (hI.nth 3 (by simp)))
  have HER := Lib.hid (eqR_same (hI.nth 1 (by simp)) (hI.nth 4 (by simp)) rfl)
  have HB1 := Lib.hid hB1
  have HB2 := Lib.hid hB2
  have HB := Lib.hid hb
  clear hI hB1 hB2 hb
  go_wp2_with fail
  refine HEG.out.mono ?_
  rintro e w2 ⟨rfl, rfl⟩
  go_wp2_with fail
  refine HER.out.mono ?_
  rintro e w2 ⟨rfl, hb2⟩
  have hB3 : Below w.heap.size w w2 := HB.out.trans (hb2.mono HB.out.size)
  have a2 : w2.cell? ⟨s1, 2, none⟩ = some bv := (HB1.out.after hb2).cell 2
  have b2 : w2.cell? ⟨s2, 2, none⟩ = some bv' := (HB2.out.after hb2).cell 2
  have hI := H0.out.below hB3
  have hIB : In G w0 (RowB bv bs :: RowB bv' bs :: IntsA (.slice A1 gs.length c1) gs :: RowsA rv rs :: IntsA (.slice A2 gs.length c2) gs :: RowsA rv' rs :: l) w2 := hI.reorder 6 [2, 5, 0, 1, 3, 4] rfl (by simp)
  have HEB := Lib.hid (eqB_in hIB)
  have HB3 := Lib.hid hB3
  clear hI hIB hB3 hb2 HEG HER a0 a1 b0 b1
  go_wp2_with fail
  refine HEB.out.mono ?_
  rintro e w3 ⟨rfl, hb3⟩
  have HB4 : Hid (Below w.heap.size w w3) := HB3.out.trans (hb3.mono HB3.out.size)
  clear hb3
  simp only [decide_true]
  go_wp2_with fail
  go_ret
  exact ⟨rfl, HB4.out⟩
end

end Go.Proofs.YtpgcghnlepnoiaaGreatDoor
