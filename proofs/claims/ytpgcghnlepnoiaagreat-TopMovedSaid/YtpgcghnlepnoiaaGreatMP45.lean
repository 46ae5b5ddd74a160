/-
  Several texts in one (merged by a program of mine): ZooKill, ZooDo, ZooDone, ZooLooks, TopDone.
-/
import Derived.Test.YtpgcghnlepnoiaaGreatMP44
set_option linter.unusedVariables false
set_option linter.unusedSimpArgs false
set_option linter.unusedSectionVars false
/-
  The contract of zoo.kill.
-/
namespace Go.Proofs.YtpgcghnlepnoiaaGreat
open Go.RowKit

theorem kills_succ (z : ZS) (hs : List Hd) (k : Nat) (h : k < hs.length) : kills z (hs.take (k + 1)) = kill1 (kills z (hs.take k)) hs[k] := by
  unfold kills
  rw [List.take_succ_eq_append_getElem h, List.foldl_append]; rfl
section
variable {G : Nat → Prop} {w0 w : World} {l : List Assn} {p : Nat} {z : ZS}
/-- the world of a zoo, and its family -/
theorem In.killW1 {wp fp : Nat} {m : Fam} {z : ZS} {x : Hd} (hz : ZOk z) (hm : bondsOf m = z.B) (hf : FamOk m) (h : In G w0 (FamA fp (goneR m x) :: WorldA wp (killW z.ls z.f x).1.1 (killW z.ls z.f x).1.2 :: zBox p wp fp :: l) w) : In G w0 (ZooA p (kill1 z x) :: l) w := by
  refine In.shutZoo (z := kill1 z x) (m := goneR m x) ?_ (h.third.perm ((List.Perm.swap _ _ _).cons _))
  rw [bonds_gone hf.nodup, hm]; rfl
set_option maxHeartbeats 2000000 in
set_option maxRecDepth 100000 in
theorem zkill_in (h : In G w0 (ZooA p z :: l) w) (hk : ZOk z) (x : Hd) :
    Calls Tryz.prog 12 #[ptr p, hdV x] w fun e w' => e = .returned (.int .i64 (killZ z x).2) ∧ In G w0 (ZooA p (killZ z x).1 :: l) w' := by
  have H0 := Lib.hid h
  have HK := Lib.hid hk
  clear h hk
  obtain ⟨i0, hi0, hz0, hz1, hz2⟩ := info_parts handle_partsF
  obtain ⟨x1, x2⟩ := x
  rw [hdV_eq]
  go_enter Tryz.func12, Tryz.ntmps12
  go_upto_region 1 with (fail)
  refine wp_abs (In G w0 (Box w.heap.size 30 (ints [x1, x2]) :: ZooA p z :: l)) (H0.out.alloc 30 (ints [x1, x2])) ?_
  generalize w.heap.size = cb
  intro w3 hI3
  have q2 : ∀ n : After w3, row? n.w cb 0 2 = some (ints [x1, x2]) := fun n => (hI3.blk.after n.below).row_all rfl
  obtain ⟨wp, fp, m, hm, hf, ha, hI4⟩ := hI3.swap.openZoo
  have q3 : ∀ n : After w3, n.w.cell? ⟨p, 0, none⟩ = some (ptr wp) := fun n => (hI4.blk.after n.below).cell 0
  obtain ⟨sp, F, q4, hS⟩ := hI4.swap.slotsOf
  have HL : Hid (∀ n : After w3, Calls Tryz.prog 20 #[.pointer (some ⟨sp, 0, none⟩), .agg (ints [x1, x2])] n.w fun e w' => e = .returned (.bool (z.live (x1, x2))) ∧ Below n.w.heap.size n.w w') := fun n => live_any sp z.ls F x1 x2 n.w (hS n)
  have HI3 := Lib.hid hI3
  clear hI3 hI4 hm hf ha hS H0
  cases hlv : z.live (x1, x2) with
  | false =>
    have HR : Hid (killZ z (x1, x2) = (z, 7)) := by unfold Hid killZ; rw [hlv]; rfl
    rw [hlv] at HL
    refine wp_region_after (by kernel_rfl) (by kernel_rfl) ?_
    repeat (go_big_quiet_step ((go_at_call 20; exact quiet_after (HL.out _))))
    refine wpQuiet_nil ?_
    rintro _ ⟨n, rfl⟩
    have HI5 := Lib.hid (HI3.out.below n.below)
    go_wp2_with fail
    go_ret
    rw [HR.out]
    exact ⟨rfl, HI5.out.drop⟩
  | true =>
    have HR : Hid (killZ z (x1, x2) = (kills z (killL z (x1, x2)), 0)) := by unfold Hid killZ; rw [if_pos hlv]
    rw [hlv] at HL
    clear hlv
    refine wp_region_after (by kernel_rfl) (by kernel_rfl) ?_
    repeat (go_big_quiet_step ((go_at_call 20; exact quiet_after (HL.out _))))
    refine wpQuiet_nil ?_
    rintro _ ⟨n, rfl⟩
    have hI5 := HI3.out.below n.below
    obtain ⟨wp, fp, m, hm, hf, ha, hI6⟩ := hI5.swap.openZoo
    generalize n.w = w5 at *
    have k1 : row? w5 cb 0 2 = some (ints [x1, x2]) := hI5.blk.row_all rfl
    have k2 : w5.cell? ⟨p, 1, none⟩ = some (ptr fp) := hI6.blk.cell 1
    have HI6 : Hid (In G w0 (FamA fp m :: zBox p wp fp :: WorldA wp z.ls z.f :: Box cb 30 (ints [x1, x2]) :: l) w5) := hI6.third
    have hml : m.length ≤ 60 := by rw [← bonds_len m, hm]; exact HK.out.len
    have HU : Hid (under m (x1, x2) = under z.B (x1, x2)) := Alike.under hf HK.out.fam ha _
    have HM := Lib.hid hm
    have HF := Lib.hid hf
    clear hI5 hI6 hm hf ha q2 q3 q4 HL HI3
    go_upto_region 3 with (fail)
    go_still_tail 5, (by kernel_rfl)
    change wpList _ _ _ _ _ w5.drew
    have HI7 := Lib.hid HI6.out.drew
    clear HI6 k1 k2
    generalize w5.drew = w6 at *
    go_wp2_with fail
    refine (funder_in HI7.out (by omega) (x1, x2)).mono ?_
    rintro e w7 ⟨uv, rfl, hI8⟩
    have hul := under_len HF.out.nodup HF.out.acyc (x1, x2)
    have HI8 := Lib.hid hI8
    clear hI8 HI7
    go_wp2_with fail
    refine (reverseH_in HI8.out (by omega)).mono ?_
    rintro e w8 ⟨rfl, hI9⟩
    rw [HU.out] at hI9 hul
    have hrl : (under z.B (x1, x2)).reverse.length = (under z.B (x1, x2)).length := List.length_reverse
    have HO := Lib.hid hI9.rowAt
    have k1 : row? w8 cb 0 2 = some (ints [x1, x2]) := (hI9.nth 4 (by simp)).blk.row_all rfl
    have HI9 := Lib.hid hI9
    clear hI9 HI8 HU
    generalize hus : (under z.B (x1, x2)).reverse = us at *
    have husl : us.length ≤ 60 := by omega
    clear hrl
    have HKL : Hid (killL z (x1, x2) = us ++ [(x1, x2)]) := by unfold Hid killL; rw [hus]
    clear hus
    go_wp2_with (at_builtin; go_loud (refine wpList_append1_at rfl _ _ 88 rfl 0 30 i0 _ 2 16 Tryz.underlying88 hi0 hz0 hz1 hz2 rfl (by decide) uv us.length (us.flatMap hC) rfl HO.out [.int .i64 x1, .int .i64 x2] rfl rfl (by simp [Value.oneCell']) ?_ ?_ (Nat.zero_le _) ?_))
    case refine_1 => unfold maxLen; omega
    case refine_2 => omega
    intro v' w9 ho hg hor
    have hI10 := In.appendH (x := (x1, x2)) HI9.out ho hg hor
    rw [← HKL.out] at hI10
    have hkl : (killL z (x1, x2)).length ≤ 61 := by rw [HKL.out, List.length_append, List.length_singleton]; omega
    obtain ⟨A, c, rfl, hc1, hc2, _⟩ := rowH_at hI10.rowAt
    have hI11 : In G w0 (ZooA p z :: RowH (.slice A (killL z (x1, x2)).length c) (killL z (x1, x2)) :: Box cb 30 (ints [x1, x2]) :: l) w9 := In.shutZoo HM.out (hI10.perm (by
      refine List.Perm.trans (List.Perm.swap _ _ _) ?_
      refine List.Perm.trans ((List.Perm.swap _ _ _).cons _) ?_
      refine List.Perm.trans (List.Perm.swap _ _ _) ?_
      refine List.Perm.cons _ ?_
      refine List.Perm.trans ((List.Perm.swap _ _ _).cons _) ?_
      exact (List.Perm.swap _ _ _)))
    have HI11 := Lib.hid hI11
    clear ho hg hor hI10 hI11 HI9 HO k1 hul HM HF hml
    generalize hks : killL z (x1, x2) = ks at *
    clear hks HKL
    go_wp2_with fail
    go_loopw [31] (fun i w' => ∃ k : Nat, k ≤ ks.length ∧ i = .int .i64 k ∧ ZOk (kills z (ks.take k)) ∧ In G w0 (ZooA p (kills z (ks.take k)) :: RowH (.slice A ks.length c) ks :: Box cb 30 (ints [x1, x2]) :: l) w') (fun i _ => ks.length - (intOf i).toNat)
    case atStart => exact ⟨0, Nat.zero_le _, rfl, HK.out, HI11.out⟩
    case round =>
      clear HI11
      obtain ⟨k, hk, rfl, hok, hI⟩ := hrel
      by_cases hlt : k < ks.length
      · have hki : (k : Int) < ks.length := by omega
        obtain ⟨A', c', e0, _, hkc, hrow⟩ := rowH_at hI.swap.rowAt
        injection e0 with e1 e2 e3
        subst e1; subst e3
        obtain ⟨g, rfl, q1⟩ := hrow k hlt
        have HS := Lib.hid (kills_succ z ks k hlt)
        have hkc' : (ks.length : Int) ≤ c := by omega
        have HI := Lib.hid hI
        have HOK := Lib.hid hok
        clear hrow e2 hI hok
        generalize ks[k] = y at *
        obtain ⟨y1, y2⟩ := y
        generalize kills z (ks.take k) = zk at *
        go_upto_region 8 with (fail)
        refine wp_abs (In G w0 (Box wr.heap.size 30 (ints [y1, y2]) :: ZooA p zk :: RowH (.slice (some ⟨g, 0, none⟩) ks.length c) ks :: Box cb 30 (ints [x1, x2]) :: l)) (HI.out.struct 30 [0, 0] [y1, y2] rfl) ?_
        generalize wr.heap.size = yb
        intro w3 hI3
        obtain ⟨wp, fp, m, hm, hf, ha, hI4⟩ := hI3.swap.openZoo
        have k1 : row? w3 yb 0 2 = some (ints [y1, y2]) := hI3.blk.row_all rfl
        have k2 : w3.cell? ⟨p, 0, none⟩ = some (ptr wp) := hI4.blk.cell 0
        have HM := Lib.hid hm
        have HF := Lib.hid hf
        have HI4 := Lib.hid hI4.swap
        clear hI3 hI4 hm hf ha HI q1
        go_still_tail 5, (by kernel_rfl)
        change wpList _ _ _ _ _ w3.drew
        have HI5 := Lib.hid HI4.out.drew
        clear HI4 k1 k2
        generalize w3.drew = w4 at *
        go_wp2_with fail
        refine (kill_in HI5.out HOK.out.w y1 y2).mono ?_
        rintro e w5 ⟨rfl, hI6⟩
        have k1 : row? w5 yb 0 2 = some (ints [y1, y2]) := (hI6.nth 3 (by simp)).blk.row_all rfl
        have k2 : w5.cell? ⟨p, 1, none⟩ = some (ptr fp) := hI6.swap.blk.cell 1
        have HI6 := Lib.hid hI6.third
        clear hI6 HI5
        go_upto_region 9 with (fail)
        go_still_tail 5, (by kernel_rfl)
        change wpList _ _ _ _ _ w5.drew
        have HI7 := Lib.hid HI6.out.drew
        clear HI6 k1 k2
        generalize w5.drew = w6 at *
        go_wp2_with fail
        refine (fgone_in HI7.out (y1, y2)).mono ?_
        rintro e w7 ⟨rfl, hI8⟩
        have hI9 := In.killW1 HOK.out HM.out HF.out hI8
        rw [← HS.out] at hI9
        have HI9 := Lib.hid hI9
        have HOK2 := Lib.hid (HOK.out.kill1 (y1, y2))
        rw [← HS.out] at HOK2
        clear hI8 hI9 HI7
        go_wp2_with fail
        go_roundw
        case rel => exact ⟨k + 1, by omega, by go_num, HOK2.out, HI9.out.swap.drop⟩
        case measure => simp [intOf]; omega
      · have : k = ks.length := by omega
        subst this
        have HI := Lib.hid hI
        rw [List.take_length] at HI
        clear hI hok
        go_wp2_with fail
        go_ret
        rw [HR.out]
        exact ⟨rfl, HI.out.swap.drop.swap.drop⟩
end

end Go.Proofs.YtpgcghnlepnoiaaGreat

/-
  The contract of zoo.Do.
-/
namespace Go.Proofs.YtpgcghnlepnoiaaGreat
open Go.RowKit

theorem row_far {w : World} {g g' o o' n : Nat} {x : Array Value} {xs : List Int} (hne : g ≠ g') (h : row? w g o n = some x) : row? (putRow w g' o' xs) g o n = some x := by
  unfold row? at *
  rw [putRow_other w g' o' xs g hne]; exact h
theorem cell_far {w : World} {g g' o o' : Nat} {x : Value} {xs : List Int} (hne : g ≠ g') (h : w.cell? ⟨g, o, none⟩ = some x) : (putRow w g' o' xs).cell? ⟨g, o, none⟩ = some x := by
  unfold World.cell? at *
  simp only [putRow_other w g' o' xs g hne]; exact h
theorem fits_again {w : World} {g o n o' : Nat} {ys : List Int} (h : fits w g o n = true) (h' : fits w g o' ys.length = true) : fits (putRow w g o' ys) g o n = true := by
  unfold fits at *
  split at h
  · rename_i cs t hg
    rw [hg] at h'
    simp only [decide_eq_true_eq] at h h'
    simp [putRow, Array.getElem?_modify, hg]
    omega
  · cases h
theorem doZ_1 (z : ZS) (o : OpM) (h : o.d = 1) : doZ z o = (⟨(spawnW z.ls z.f o.b).1.1, (spawnW z.ls z.f o.b).1.2, z.B⟩, (spawnW z.ls z.f o.b).2.1, (spawnW z.ls z.f o.b).2.2) := by unfold doZ; rw [if_pos h]
theorem doZ_2 (z : ZS) (o : OpM) (h : o.d = 2) : doZ z o = ((killZ z o.a).1, (0, 0), (killZ z o.a).2) := by
  unfold doZ; rw [if_neg (by omega), if_pos h]
theorem doZ_3 (z : ZS) (o : OpM) (h : o.d = 3) : doZ z o = (⟨z.ls, (putW z.ls z.f o.a o.k o.n).1, z.B⟩, (0, 0), (putW z.ls z.f o.a o.k o.n).2) := by
  unfold doZ; rw [if_neg (by omega), if_neg (by omega), if_pos h]
theorem doZ_4 (z : ZS) (o : OpM) (h : o.d = 4) : doZ z o = (⟨z.ls, (dropW z.ls z.f o.a o.k).1, z.B⟩, (0, 0), (dropW z.ls z.f o.a o.k).2) := by
  unfold doZ; rw [if_neg (by omega), if_neg (by omega), if_neg (by omega), if_pos h]
theorem doZ_5 (z : ZS) (o : OpM) (h : o.d = 5) : doZ z o = ((adoptZ z o.a o.t).1, (0, 0), (adoptZ z o.a o.t).2) := by
  unfold doZ; rw [if_neg (by omega), if_neg (by omega), if_neg (by omega), if_neg (by omega), if_pos h]
theorem doZ_6 (z : ZS) (o : OpM) (h : o.d = 6) : doZ z o = ((loosenZ z o.a).1, (0, 0), (loosenZ z o.a).2) := by
  unfold doZ; rw [if_neg (by omega), if_neg (by omega), if_neg (by omega), if_neg (by omega), if_neg (by omega), if_pos h]
theorem doZ_7 (z : ZS) (o : OpM) (h : o.d ≠ 1 ∧ o.d ≠ 2 ∧ o.d ≠ 3 ∧ o.d ≠ 4 ∧ o.d ≠ 5 ∧ o.d ≠ 6) : doZ z o = (z, (0, 0), 1) := by
  unfold doZ; rw [if_neg h.1, if_neg h.2.1, if_neg h.2.2.1, if_neg h.2.2.2.1, if_neg h.2.2.2.2.1, if_neg h.2.2.2.2.2]
section
variable {G : Nat → Prop} {w0 w : World} {l : List Assn} {p : Nat} {z : ZS}
set_option maxHeartbeats 4000000 in
set_option maxRecDepth 100000 in
theorem zdo_in (h : In G w0 (ZooA p z :: l) w) (hk : ZOk z) (o : OpM) (hv : o.b.v.length = 8) :
    Calls Tryz.prog 6 #[ptr p, .agg (ints o.list)] w fun e w' => e = .returned (.tuple #[.agg (ints [(doZ z o).2.1.1, (doZ z o).2.1.2]), .int .i64 (doZ z o).2.2]) ∧ In G w0 (ZooA p (doZ z o).1 :: l) w' := by
  have H0 := Lib.hid h
  have HK := Lib.hid hk
  have HV8 := Lib.hid hv
  have h16 : o.list.length = 16 := OpM.len hv
  have hp : p < w.heap.size := by obtain ⟨wp, fp, m, _, _, _, hI⟩ := h.openZoo; exact hI.blk.lt
  clear h hk hv
  go_enter Tryz.func6, Tryz.ntmps6
  have hft : fits (((w.alloc (.cells (ints o.list) 35)).alloc (.cells #[.int .i64 0, .int .i64 0] 30)).alloc (.cells #[.int .i64 0, .int .i64 0] 30)) (w.heap.size + 1 + 1) 0 2 = true := by
    have h1 := (((H0.out.alloc 35 (ints o.list)).alloc 30 (ints [0, 0])).alloc 30 (ints [0, 0])).blk.fits 0 2 (by rw [ints_size]; simp)
    simp only [World.size_alloc] at h1
    exact h1
  go_upto_region 2 with (fail)
  refine wp_abs (In G w0 (Box (w.heap.size + 1 + 1) 30 (ints [0, 0]) :: Box (w.heap.size + 1) 30 (ints [0, 0]) :: Box w.heap.size 35 (ints o.list) :: ZooA p z :: l)) (by
    have h1 := H0.out.alloc 35 (ints o.list)
    have h2 := h1.alloc 30 (ints [0, 0])
    have h3 := h2.struct 30 [0, 0] [0, 0] rfl
    simp only [World.size_alloc] at h3
    exact h3) ?_
  clear hft
  have HNE : Hid (w.heap.size + 1 + 1 ≠ w.heap.size + 1 ∧ w.heap.size ≠ w.heap.size + 1 ∧ p ≠ w.heap.size + 1) := ⟨by omega, by omega, by omega⟩
  clear hp
  generalize w.heap.size + 1 + 1 = nb at *
  generalize w.heap.size + 1 = rb at *
  generalize w.heap.size = ob at *
  intro w3 hI3
  clear H0
  obtain ⟨d, ⟨bk, bv⟩, ⟨a1, a2⟩, ⟨t1, t2⟩, kk, nn⟩ := o
  have hv8 : bv.length = 8 := HV8.out
  have hI3 := hI3.third
  have hdrop : (OpM.list ⟨d, ⟨bk, bv⟩, (a1, a2), (t1, t2), kk, nn⟩).drop 10 = [a1, a2, t1, t2, kk, nn] := by
    have : (OpM.list ⟨d, ⟨bk, bv⟩, (a1, a2), (t1, t2), kk, nn⟩) = ([d] ++ (bk :: bv)) ++ [a1, a2, t1, t2, kk, nn] := rfl
    rw [this, List.drop_left' (by simp [hv8])]
  have hdrop12 : (OpM.list ⟨d, ⟨bk, bv⟩, (a1, a2), (t1, t2), kk, nn⟩).drop 12 = [t1, t2, kk, nn] := by
    rw [show (12 : Nat) = 10 + 2 from rfl, ← List.drop_drop, hdrop]; rfl
  have q0 : w3.cell? ⟨ob, 0, none⟩ = some (.int .i64 d) := hI3.blk.cell 0
  have qf : fits w3 rb 0 2 = true := hI3.third.blk.fits 0 2 (by rw [ints_size]; simp)
  obtain ⟨wp, fp, m, hm, hf, ha, hI4⟩ := hI3.fourth.openZoo
  have qp : w3.cell? ⟨p, 0, none⟩ = some (ptr wp) := hI4.blk.cell 0
  -- the world, the zoo's box, the family; op, none, result
  have HI3 : Hid (In G w0 (ZooA p z :: Box rb 30 (ints [0, 0]) :: Box ob 35 (ints (OpM.list ⟨d, ⟨bk, bv⟩, (a1, a2), (t1, t2), kk, nn⟩)) :: Box nb 30 (ints [0, 0]) :: l) w3) := by
    have := hI3.reorder 4 [3, 2, 0, 1] rfl (by simp)
    exact this
  have HI4 : Hid (In G w0 (WorldA wp z.ls z.f :: Box rb 30 (ints [0, 0]) :: zBox p wp fp :: FamA fp m :: Box ob 35 (ints (OpM.list ⟨d, ⟨bk, bv⟩, (a1, a2), (t1, t2), kk, nn⟩)) :: Box nb 30 (ints [0, 0]) :: l) w3) := by
    have := hI4.reorder 6 [1, 5, 0, 2, 3, 4] rfl (by simp)
    exact this
  have HM := Lib.hid hm
  clear hI3 hI4 hm hf ha
  generalize hL : Box ob 35 (ints (OpM.list ⟨d, ⟨bk, bv⟩, (a1, a2), (t1, t2), kk, nn⟩)) :: Box nb 30 (ints [0, 0]) :: l = L at *
  have HL : Hid (∀ {W : World} {A : Assn}, In G w0 (A :: L) W → In G w0 (A :: l) W) := by
    intro W A h; rw [← hL] at h; exact h.swap.drop.swap.drop
  have HOB : Hid (∀ {W : World} {A : Assn}, In G w0 (A :: L) W → row? W ob 10 2 = some (ints [a1, a2]) ∧ row? W ob 12 2 = some (ints [t1, t2]) ∧ row? W ob 1 9 = some (ints (Beast.list ⟨bk, bv⟩)) ∧ W.cell? ⟨ob, 14, none⟩ = some (.int .i64 kk) ∧ W.cell? ⟨ob, 15, none⟩ = some (.int .i64 nn) ∧ row? W nb 0 2 = some (ints [0, 0])) := by
    intro W A h
    rw [← hL] at h
    have hb := h.swap.blk
    refine ⟨?_, ?_, ?_, ?_, ?_, h.third.blk.row_all rfl⟩
    · rw [hb.row_ints 10 2 (by omega), hdrop]; rfl
    · rw [hb.row_ints 12 2 (by omega), hdrop12]; rfl
    · rw [hb.row_ints 1 9 (by omega)]
      have : (OpM.list ⟨d, ⟨bk, bv⟩, (a1, a2), (t1, t2), kk, nn⟩).drop 1 = Beast.list ⟨bk, bv⟩ ++ [a1, a2, t1, t2, kk, nn] := rfl
      rw [this, List.take_left' (by simp [Beast.list, hv8])]
    · refine cell_row0 (n := 1) (xs := []) ?_
      rw [hb.row_ints 14 1 (by omega), show (14 : Nat) = 10 + 4 from rfl, ← List.drop_drop, hdrop]; rfl
    · refine cell_row0 (n := 1) (xs := []) ?_
      rw [hb.row_ints 15 1 (by omega), show (15 : Nat) = 10 + 5 from rfl, ← List.drop_drop, hdrop]; rfl
  obtain ⟨q2, q3, q5, q14, q15, qn⟩ := HOB.out (HI3.out.swap.drop)
  clear hL hdrop hdrop12 h16 hv8
  -- the world is open
  have HFW : Hid (∀ {W : World} {A : Assn}, In G w0 (A :: Box rb 30 (ints [0, 0]) :: zBox p wp fp :: FamA fp m :: L) W → W.cell? ⟨p, 0, none⟩ = some (ptr wp) ∧ fits W rb 0 2 = true ∧ row? W ob 10 2 = some (ints [a1, a2]) ∧ row? W ob 1 9 = some (ints (Beast.list ⟨bk, bv⟩)) ∧ W.cell? ⟨ob, 14, none⟩ = some (.int .i64 kk) ∧ W.cell? ⟨ob, 15, none⟩ = some (.int .i64 nn) ∧ row? W nb 0 2 = some (ints [0, 0])) := by
    intro W A h
    obtain ⟨r2, r3, r5, r14, r15, rn⟩ := HOB.out (h.swap.drop.swap.drop.swap.drop)
    exact ⟨h.third.blk.cell 0, h.swap.blk.fits 0 2 (by rw [ints_size]; simp), r2, r5, r14, r15, rn⟩
  have HFZ : Hid (∀ {W : World} {A : Assn}, In G w0 (A :: Box rb 30 (ints [0, 0]) :: L) W → fits W rb 0 2 = true ∧ row? W ob 10 2 = some (ints [a1, a2]) ∧ row? W nb 0 2 = some (ints [0, 0])) := by
    intro W A h
    obtain ⟨r2, r3, r5, r14, r15, rn⟩ := HOB.out (h.swap.drop)
    exact ⟨h.swap.blk.fits 0 2 (by rw [ints_size]; simp), r2, rn⟩
  have HPUT : Hid (∀ {W : World} {A : Assn} {L : List Assn} (x y : Int), In G w0 (A :: Box rb 30 (ints [0, 0]) :: L) W → In G w0 (A :: Box rb 30 (ints [x, y]) :: L) (putRow W rb 0 [x, y])) := fun x y h => (h.swap.put_all [x, y] rfl).swap
  have HENDW : Hid (∀ {W : World} {ls' : List (Int × Bool)} {f' : BF} {xs : List Int}, In G w0 (WorldA wp ls' f' :: Box rb 30 (ints xs) :: zBox p wp fp :: FamA fp m :: L) W → In G w0 (ZooA p ⟨ls', f', z.B⟩ :: l) W) := fun {W ls' f' xs} h => HL.out (In.shutZoo (z := ⟨ls', f', z.B⟩) HM.out h.swap.drop.swap)
  clear hI3 HM
  by_cases h1 : d = 1
  · have hd : (d == 1) = true := by simp [h1]
    have HR : Hid (doZ z ⟨d, ⟨bk, bv⟩, (a1, a2), (t1, t2), kk, nn⟩ = _) := doZ_1 z _ h1
    clear h1 q2 q3 q14 q15 qn
    go_upto_region 4 with (fail)
    go_region_held3 (fun W => W.cell? ⟨p, 0, none⟩ = some (ptr wp) ∧ row? W ob 1 9 = some (ints (Beast.list ⟨bk, bv⟩)) ∧ fits W rb 0 2 = true)
      (refine ⟨?_, ?_, ?_⟩ <;> first | assumption | (refine row_far HNE.out.2.1 ?_; assumption) | (refine cell_far HNE.out.2.2 ?_; assumption) | (refine fits_again ?_ ?_ <;> assumption))
      (first
        | (go_at_call 11; refine (spawn_in HI4.out.drew HK.out.w ⟨bk, bv⟩ HV8.out).mono ?_; rintro e w10 ⟨rfl, hI10⟩; obtain ⟨s1, s2, s3, s4, s5, s6, s7⟩ := HFW.out hI10; have HI5 := Lib.hid hI10; clear hI10))
    have HI6 := Lib.hid (HPUT.out (spawnW z.ls z.f ⟨bk, bv⟩).2.1.1 (spawnW z.ls z.f ⟨bk, bv⟩).2.1.2 HI5.out)
    go_wp2_with fail
    refine bodyPost_row_tmp rfl rb 30 (ints [(spawnW z.ls z.f ⟨bk, bv⟩).2.1.1, (spawnW z.ls z.f ⟨bk, bv⟩).2.1.2]) (.int .i64 (spawnW z.ls z.f ⟨bk, bv⟩).2.2) _ rfl rfl HI6.out.swap.blk Tryz.underlying30 rfl (by rw [ints_size]; exact handle_info) rfl ?_
    rw [HR.out]
    exact ⟨rfl, HENDW.out HI6.out⟩
  have hd1 : (d == 1) = false := by simp [h1]
  by_cases h2 : d = 2
  · have hd : (d == 2) = true := by simp [h2]
    have HR : Hid (doZ z ⟨d, ⟨bk, bv⟩, (a1, a2), (t1, t2), kk, nn⟩ = _) := doZ_2 z _ h2
    clear h1 h2 q3 q5 q14 q15 qp
    go_upto_region 6 with (fail)
    go_region_held3 (fun W => row? W ob 10 2 = some (ints [a1, a2]) ∧ row? W nb 0 2 = some (ints [0, 0]) ∧ fits W rb 0 2 = true)
      (refine ⟨?_, ?_, ?_⟩ <;> first | assumption | (refine row_far HNE.out.2.1 ?_; assumption) | (refine row_far HNE.out.1 ?_; assumption) | (refine fits_again ?_ ?_ <;> assumption))
      (first
        | (go_at_call 12; refine (zkill_in HI3.out.drew HK.out (a1, a2)).mono ?_; rintro e w10 ⟨rfl, hI10⟩; obtain ⟨s1, s2, s3⟩ := HFZ.out hI10; have HI6 := Lib.hid (HPUT.out 0 0 hI10); clear hI10)
        | (go_at_call 12; refine (zkill_in (HPUT.out 0 0 HI3.out.drew) HK.out (a1, a2)).mono ?_; rintro e w10 ⟨rfl, hI10⟩; obtain ⟨s1, s2, s3⟩ := HFZ.out hI10; have HI6 := Lib.hid hI10; clear hI10))
    all_goals
      go_wp2_with fail
      refine bodyPost_row_tmp rfl rb 30 (ints [0, 0]) (.int .i64 (killZ z (a1, a2)).2) _ rfl rfl HI6.out.swap.blk Tryz.underlying30 rfl (by rw [ints_size]; exact handle_info) rfl ?_
      rw [HR.out]
      exact ⟨rfl, HL.out HI6.out.swap.drop⟩
  have hd2 : (d == 2) = false := by simp [h2]
  by_cases h3 : d = 3
  · have hd : (d == 3) = true := by simp [h3]
    have HR : Hid (doZ z ⟨d, ⟨bk, bv⟩, (a1, a2), (t1, t2), kk, nn⟩ = _) := doZ_3 z _ h3
    clear h1 h2 h3 q3 q5
    go_upto_region 8 with (fail)
    go_region_held3 (fun W => W.cell? ⟨p, 0, none⟩ = some (ptr wp) ∧ row? W ob 10 2 = some (ints [a1, a2]) ∧ W.cell? ⟨ob, 14, none⟩ = some (.int .i64 kk) ∧ W.cell? ⟨ob, 15, none⟩ = some (.int .i64 nn) ∧ row? W nb 0 2 = some (ints [0, 0]) ∧ fits W rb 0 2 = true)
      (refine ⟨?_, ?_, ?_, ?_, ?_, ?_⟩ <;> first | assumption | (refine row_far HNE.out.2.1 ?_; assumption) | (refine row_far HNE.out.1 ?_; assumption) | (refine cell_far HNE.out.2.2 ?_; assumption) | (refine cell_far HNE.out.2.1 ?_; assumption) | (refine fits_again ?_ ?_ <;> assumption))
      (first
        | (go_at_call 13; refine (put_in HI4.out.drew HK.out.w a1 a2 kk nn).mono ?_; rintro e w10 ⟨rfl, hI10⟩; obtain ⟨s1, s2, s3, s4, s5, s6, s7⟩ := HFW.out hI10; have HI6 := Lib.hid (HPUT.out 0 0 hI10); clear hI10)
        | (go_at_call 13; refine (put_in (HPUT.out 0 0 HI4.out.drew) HK.out.w a1 a2 kk nn).mono ?_; rintro e w10 ⟨rfl, hI10⟩; obtain ⟨s1, s2, s3, s4, s5, s6, s7⟩ := HFW.out hI10; have HI6 := Lib.hid hI10; clear hI10))
    all_goals
      go_wp2_with fail
      refine bodyPost_row_tmp rfl rb 30 (ints [0, 0]) (.int .i64 (putW z.ls z.f (a1, a2) kk nn).2) _ rfl rfl HI6.out.swap.blk Tryz.underlying30 rfl (by rw [ints_size]; exact handle_info) rfl ?_
      rw [HR.out]
      exact ⟨rfl, HENDW.out HI6.out⟩
  have hd3 : (d == 3) = false := by simp [h3]
  by_cases h4 : d = 4
  · have hd : (d == 4) = true := by simp [h4]
    have HR : Hid (doZ z ⟨d, ⟨bk, bv⟩, (a1, a2), (t1, t2), kk, nn⟩ = _) := doZ_4 z _ h4
    clear h1 h2 h3 h4 q3 q5 q15
    go_upto_region 10 with (fail)
    go_region_held3 (fun W => W.cell? ⟨p, 0, none⟩ = some (ptr wp) ∧ row? W ob 10 2 = some (ints [a1, a2]) ∧ W.cell? ⟨ob, 14, none⟩ = some (.int .i64 kk) ∧ row? W nb 0 2 = some (ints [0, 0]) ∧ fits W rb 0 2 = true)
      (refine ⟨?_, ?_, ?_, ?_, ?_⟩ <;> first | assumption | (refine row_far HNE.out.2.1 ?_; assumption) | (refine row_far HNE.out.1 ?_; assumption) | (refine cell_far HNE.out.2.2 ?_; assumption) | (refine cell_far HNE.out.2.1 ?_; assumption) | (refine fits_again ?_ ?_ <;> assumption))
      (first
        | (go_at_call 14; refine (drop_in HI4.out.drew HK.out.w a1 a2 kk).mono ?_; rintro e w10 ⟨rfl, hI10⟩; obtain ⟨s1, s2, s3, s4, s5, s6, s7⟩ := HFW.out hI10; have HI6 := Lib.hid (HPUT.out 0 0 hI10); clear hI10)
        | (go_at_call 14; refine (drop_in (HPUT.out 0 0 HI4.out.drew) HK.out.w a1 a2 kk).mono ?_; rintro e w10 ⟨rfl, hI10⟩; obtain ⟨s1, s2, s3, s4, s5, s6, s7⟩ := HFW.out hI10; have HI6 := Lib.hid hI10; clear hI10))
    all_goals
      go_wp2_with fail
      refine bodyPost_row_tmp rfl rb 30 (ints [0, 0]) (.int .i64 (dropW z.ls z.f (a1, a2) kk).2) _ rfl rfl HI6.out.swap.blk Tryz.underlying30 rfl (by rw [ints_size]; exact handle_info) rfl ?_
      rw [HR.out]
      exact ⟨rfl, HENDW.out HI6.out⟩
  have hd4 : (d == 4) = false := by simp [h4]
  clear q5 q14 q15 qp HI4 HENDW HFW
  by_cases h5 : d = 5
  · have hd : (d == 5) = true := by simp [h5]
    have HR : Hid (doZ z ⟨d, ⟨bk, bv⟩, (a1, a2), (t1, t2), kk, nn⟩ = _) := doZ_5 z _ h5
    clear h1 h2 h3 h4 h5
    have hbs : ∀ W, (Instr.buildSlice 88 2 #[(0, .agg (ints [a1, a2])), (1, .agg (ints [t1, t2]))]).run Tryz.prog W = .ok (.slice (some ⟨W.heap.size, 0, none⟩) 2 2) (W.alloc (.cells (ints [a1, a2, t1, t2]) 30)) := fun W => by kernel_rfl
    have HB : Hid (In G w0 (ZooA p z :: RowH (.slice (some ⟨w3.heap.size, 0, none⟩) 2 2) [(a1, a2), (t1, t2)] :: Box rb 30 (ints [0, 0]) :: L) (w3.alloc (.cells (ints [a1, a2, t1, t2]) 30))) := (HI3.out.newLit 30 2 2 [.int .i64 a1, .int .i64 a2, .int .i64 t1, .int .i64 t2] rfl (by decide)).swap
    go_wp2_with fail
    refine (zlive_in HB.out (by simp)).mono ?_
    rintro e w4 ⟨rfl, hI5⟩
    have hI5 := hI5.swap.drop
    by_cases hlv : liveZ z [(a1, a2), (t1, t2)] = true
    · have hlv2 : z.live (a1, a2) = true ∧ z.live (t1, t2) = true := by simpa [liveZ] using hlv
      have HA : Hid (adoptZ z (a1, a2) (t1, t2) = (⟨z.ls, z.f, bondsOf (adoptR z.B (a1, a2) (t1, t2)).1⟩, (adoptR z.B (a1, a2) (t1, t2)).2)) := by unfold Hid adoptZ; rw [if_pos hlv2]
      rw [if_pos hlv]
      obtain ⟨wp, fp, m, hm, hf, ha, hI6⟩ := hI5.openZoo
      obtain ⟨q2, q3, q5, q14, q15, qn⟩ := HOB.out hI5.swap.drop
      have qp : w4.cell? ⟨p, 1, none⟩ = some (ptr fp) := hI6.blk.cell 1
      have HAD := Lib.hid (ha.adopt (a1, a2) (t1, t2))
      have HBE : Hid (bondsOf (adoptR m (a1, a2) (t1, t2)).1 = bondsOf (adoptR z.B (a1, a2) (t1, t2)).1) := bonds_congr (hf.adopt _ _).nodup (HK.out.fam.adopt _ _).nodup (ha.adopt (a1, a2) (t1, t2)).1
      have HI6 : Hid (In G w0 (FamA fp m :: zBox p wp fp :: WorldA wp z.ls z.f :: Box rb 30 (ints [0, 0]) :: L) w4) := hI6.third
      clear hI5 hI6 hlv hlv2 hm hf ha q5 q14 q15 HB HI3
      go_upto_region 14 with (fail)
      go_still_tail 8, (by kernel_rfl)
      change wpList _ _ _ _ _ w4.drew
      have HI7 := Lib.hid HI6.out.drew
      clear HI6 q2 q3 qn qp qf
      generalize w4.drew = w5 at *
      go_wp2_with fail
      refine (fadopt_in HI7.out (a1, a2) (t1, t2)).mono ?_
      rintro e w6 ⟨rfl, hI8⟩
      have hI9 : In G w0 (ZooA p ⟨z.ls, z.f, bondsOf (adoptR z.B (a1, a2) (t1, t2)).1⟩ :: Box rb 30 (ints [0, 0]) :: L) w6 := In.shutZoo (z := ⟨z.ls, z.f, bondsOf (adoptR z.B (a1, a2) (t1, t2)).1⟩) HBE.out hI8.third.third
      rw [HAD.out.2]
      obtain ⟨qf, q2, qn⟩ := HFZ.out hI9
      have HI6 := Lib.hid (HPUT.out 0 0 hI9)
      clear hI8 hI9 HI7
      go_wp2_with fail
      refine bodyPost_row_tmp rfl rb 30 (ints [0, 0]) (.int .i64 (adoptR z.B (a1, a2) (t1, t2)).2) _ rfl rfl HI6.out.swap.blk Tryz.underlying30 rfl (by rw [ints_size]; exact handle_info) rfl ?_
      rw [HR.out, HA.out]
      exact ⟨rfl, HL.out HI6.out.swap.drop⟩
    · have hlv2 : ¬ (z.live (a1, a2) = true ∧ z.live (t1, t2) = true) := by simpa [liveZ] using hlv
      have HA : Hid (adoptZ z (a1, a2) (t1, t2) = (z, 7)) := by unfold Hid adoptZ; rw [if_neg hlv2]
      rw [if_neg hlv]
      obtain ⟨qf, q2, qn⟩ := HFZ.out hI5
      have HI6 := Lib.hid (HPUT.out 0 0 hI5)
      clear hI5 hlv hlv2 HB HI3
      go_wp2_with fail
      refine bodyPost_row_tmp rfl rb 30 (ints [0, 0]) (.int .i64 7) _ rfl rfl HI6.out.swap.blk Tryz.underlying30 rfl (by rw [ints_size]; exact handle_info) rfl ?_
      rw [HR.out, HA.out]
      exact ⟨rfl, HL.out HI6.out.swap.drop⟩
  have hd5 : (d == 5) = false := by simp [h5]
  by_cases h6 : d = 6
  · have hd : (d == 6) = true := by simp [h6]
    have HR : Hid (doZ z ⟨d, ⟨bk, bv⟩, (a1, a2), (t1, t2), kk, nn⟩ = _) := doZ_6 z _ h6
    clear h1 h2 h3 h4 h5 h6
    have HB : Hid (In G w0 (ZooA p z :: RowH (.slice (some ⟨w3.heap.size, 0, none⟩) 1 1) [(a1, a2)] :: Box rb 30 (ints [0, 0]) :: L) (w3.alloc (.cells (ints [a1, a2]) 30))) := (HI3.out.newLit 30 2 1 [.int .i64 a1, .int .i64 a2] rfl (by decide)).swap
    go_wp2_with fail
    refine (zlive_in HB.out (by simp)).mono ?_
    rintro e w4 ⟨rfl, hI5⟩
    have hI5 := hI5.swap.drop
    by_cases hlv : liveZ z [(a1, a2)] = true
    · have hlv2 : z.live (a1, a2) = true := by simpa [liveZ] using hlv
      have HA : Hid (loosenZ z (a1, a2) = (⟨z.ls, z.f, (loosenR z.B (a1, a2)).1⟩, (loosenR z.B (a1, a2)).2)) := by unfold Hid loosenZ; rw [if_pos hlv2]
      rw [if_pos hlv]
      obtain ⟨wp, fp, m, hm, hf, ha, hI6⟩ := hI5.openZoo
      obtain ⟨q2, q3, q5, q14, q15, qn⟩ := HOB.out hI5.swap.drop
      have qp : w4.cell? ⟨p, 1, none⟩ = some (ptr fp) := hI6.blk.cell 1
      have HAD := Lib.hid (ha.loosen (a1, a2))
      have HBE : Hid (bondsOf (loosenR m (a1, a2)).1 = (loosenR z.B (a1, a2)).1) := by
        have h1 := (HK.out.loosen (a1, a2)).srt
        rw [HA.out] at h1
        have h2 := bonds_congr (hf.loosen (a1, a2)).nodup (HK.out.fam.loosen (a1, a2)).nodup (ha.loosen (a1, a2)).1
        exact h2.trans h1
      have HI6 : Hid (In G w0 (FamA fp m :: zBox p wp fp :: WorldA wp z.ls z.f :: Box rb 30 (ints [0, 0]) :: L) w4) := hI6.third
      clear hI5 hI6 hlv hlv2 hm hf ha q3 q5 q14 q15 HB HI3
      go_upto_region 19 with (fail)
      go_still_tail 6, (by kernel_rfl)
      change wpList _ _ _ _ _ w4.drew
      have HI7 := Lib.hid HI6.out.drew
      clear HI6 q2 qn qp qf
      generalize w4.drew = w5 at *
      go_wp2_with fail
      refine (floosen_in HI7.out (a1, a2)).mono ?_
      rintro e w6 ⟨rfl, hI8⟩
      have hI9 : In G w0 (ZooA p ⟨z.ls, z.f, (loosenR z.B (a1, a2)).1⟩ :: Box rb 30 (ints [0, 0]) :: L) w6 := In.shutZoo (z := ⟨z.ls, z.f, (loosenR z.B (a1, a2)).1⟩) HBE.out hI8.third.third
      rw [HAD.out.2]
      obtain ⟨qf, q2, qn⟩ := HFZ.out hI9
      have HI6 := Lib.hid (HPUT.out 0 0 hI9)
      clear hI8 hI9 HI7
      go_wp2_with fail
      refine bodyPost_row_tmp rfl rb 30 (ints [0, 0]) (.int .i64 (loosenR z.B (a1, a2)).2) _ rfl rfl HI6.out.swap.blk Tryz.underlying30 rfl (by rw [ints_size]; exact handle_info) rfl ?_
      rw [HR.out, HA.out]
      exact ⟨rfl, HL.out HI6.out.swap.drop⟩
    · have hlv2 : ¬ (z.live (a1, a2) = true) := by simpa [liveZ] using hlv
      have HA : Hid (loosenZ z (a1, a2) = (z, 7)) := by unfold Hid loosenZ; rw [if_neg hlv2]
      rw [if_neg hlv]
      obtain ⟨qf, q2, qn⟩ := HFZ.out hI5
      have HI6 := Lib.hid (HPUT.out 0 0 hI5)
      clear hI5 hlv hlv2 HB HI3
      go_wp2_with fail
      refine bodyPost_row_tmp rfl rb 30 (ints [0, 0]) (.int .i64 7) _ rfl rfl HI6.out.swap.blk Tryz.underlying30 rfl (by rw [ints_size]; exact handle_info) rfl ?_
      rw [HR.out, HA.out]
      exact ⟨rfl, HL.out HI6.out.swap.drop⟩
  have hd6 : (d == 6) = false := by simp [h6]
  have HR : Hid (doZ z ⟨d, ⟨bk, bv⟩, (a1, a2), (t1, t2), kk, nn⟩ = _) := doZ_7 z _ ⟨h1, h2, h3, h4, h5, h6⟩
  have HI6 := Lib.hid (HPUT.out 0 0 HI3.out)
  go_wp2_with fail
  refine bodyPost_row_tmp rfl rb 30 (ints [0, 0]) (.int .i64 1) _ rfl rfl HI6.out.swap.blk Tryz.underlying30 rfl (by rw [ints_size]; exact handle_info) rfl ?_
  rw [HR.out]
  exact ⟨rfl, HL.out HI6.out.swap.drop⟩
end

end Go.Proofs.YtpgcghnlepnoiaaGreat

/-
  The contract of vivariumkeep.done: a zoo by some operations.
-/
namespace Go.Proofs.YtpgcghnlepnoiaaGreat
open Go.RowKit

theorem In.bare {G : Nat → Prop} {w0 w : World} {l : List Assn} (h : In G w0 l w) : In G w0 [] w := ⟨trivial, h.only⟩
/-- operations that are read, wherever the walk stands -/
def OpsAt (G : Nat → Prop) (w0 : World) (B : Nat) (A : Option Addr) (os : List OpM) : Prop := ∀ {W : World}, In G w0 [] W → OpsIn W B A os
theorem OpsAt.of_arg {w : World} {A : Option Addr} {os : List OpM} (h : OpsIn w w.heap.size A os) : OpsAt (fun _ => False) w w.heap.size A os := fun hI => h.below hI.below0
section
variable {G : Nat → Prop} {w0 w : World} {l : List Assn} {B : Nat} {A : Option Addr} {c : Nat} {os : List OpM}
end

end Go.Proofs.YtpgcghnlepnoiaaGreat

/-
  The handles that an operation looks at: zoo.looks.
-/
namespace Go.Proofs.YtpgcghnlepnoiaaGreat
open Go.RowKit

def offsZ (d : Int) : List Nat := if d = 2 ∨ d = 3 ∨ d = 4 ∨ d = 6 then [10] else if d = 5 then [10, 12] else []
def handO (o : OpM) (off : Nat) : Hd := if off = 10 then o.a else o.t
def setO (o : OpM) (off : Nat) (h : Hd) : OpM := if off = 10 then { o with a := h } else { o with t := h }
/-- what is meant, so far -/
def meanK (sp : List Hd) (o : OpM) : List Nat → OpM
  | [] => o
  | off :: l => meanK sp (setO o off (meantT sp (handO o off))) l
theorem meanK_append (sp : List Hd) (l l' : List Nat) : ∀ o, meanK sp o (l ++ l') = meanK sp (meanK sp o l) l' := by
  induction l with
  | nil => intro o; rfl
  | cons a l ih => intro o; exact ih _
theorem setO_b (o : OpM) (off : Nat) (h : Hd) : (setO o off h).b = o.b ∧ (setO o off h).d = o.d := by
  unfold setO; split <;> exact ⟨rfl, rfl⟩
theorem meanK_b (sp : List Hd) (l : List Nat) : ∀ o, (meanK sp o l).b = o.b ∧ (meanK sp o l).d = o.d := by
  induction l with
  | nil => intro o; exact ⟨rfl, rfl⟩
  | cons a l ih => intro o; exact ⟨(ih _).1.trans (setO_b _ _ _).1, (ih _).2.trans (setO_b _ _ _).2⟩
theorem offs_mem {d : Int} {off : Nat} (h : off ∈ offsZ d) : off = 10 ∨ off = 12 := by
  unfold offsZ at h
  split at h
  · simp at h; exact Or.inl h
  · split at h
    · simp at h; exact h
    · simp at h
theorem offs_len (d : Int) : (offsZ d).length ≤ 2 := by
  unfold offsZ; split; simp; split; simp; simp
/-- a handle is not yet touched -/
theorem hand_kept (sp : List Hd) (o : OpM) (k : Nat) (hk : k < (offsZ o.d).length) : handO (meanK sp o ((offsZ o.d).take k)) (offsZ o.d)[k] = handO o (offsZ o.d)[k] := by
  unfold offsZ at hk ⊢
  by_cases h1 : o.d = 2 ∨ o.d = 3 ∨ o.d = 4 ∨ o.d = 6
  · simp only [if_pos h1] at hk ⊢
    have : k = 0 := by simpa using hk
    subst this; rfl
  · simp only [if_neg h1] at hk ⊢
    by_cases h5 : o.d = 5
    · simp only [if_pos h5] at hk ⊢
      simp at hk
      match k, hk with
      | 0, _ => rfl
      | 1, _ => rfl
    · simp [if_neg h5] at hk
theorem looks_none {sp : List Hd} {o : OpM} {k : Nat} (hk : k < (offsZ o.d).length) (h : meantH sp (handO o (offsZ o.d)[k]) = none) : looksZ sp o = none := by
  unfold looksZ
  unfold offsZ at hk
  by_cases h1 : o.d = 2 ∨ o.d = 3 ∨ o.d = 4 ∨ o.d = 6
  · rw [if_pos h1]
    have e : offsZ o.d = [10] := by unfold offsZ; rw [if_pos h1]
    simp only [e] at h
    simp only [if_pos h1] at hk
    have : k = 0 := by simpa using hk
    subst this
    have : meantH sp o.a = none := h
    rw [this]; rfl
  · rw [if_neg h1]
    simp only [if_neg h1] at hk
    by_cases h5 : o.d = 5
    · rw [if_pos h5]
      have e : offsZ o.d = [10, 12] := by unfold offsZ; rw [if_neg h1, if_pos h5]
      simp only [e] at h
      simp only [if_pos h5] at hk
      simp at hk
      match k, hk with
      | 0, _ => have : meantH sp o.a = none := h; rw [this]; rfl
      | 1, _ =>
        have : meantH sp o.t = none := h
        rw [this]
        cases meantH sp o.a <;> rfl
    · simp [if_neg h5] at hk
theorem looks_all {sp : List Hd} {o : OpM} (h : ∀ k, (hk : k < (offsZ o.d).length) → meantH sp (handO o (offsZ o.d)[k]) ≠ none) : looksZ sp o = some (meanK sp o (offsZ o.d)) := by
  unfold looksZ
  by_cases h1 : o.d = 2 ∨ o.d = 3 ∨ o.d = 4 ∨ o.d = 6
  · have e : offsZ o.d = [10] := by unfold offsZ; rw [if_pos h1]
    simp only [e] at h ⊢
    rw [if_pos h1]
    have h0 := h 0 (by simp)
    cases hm : meantH sp o.a with
    | none => exact absurd hm h0
    | some a =>
      have := meant_eq hm
      simp [meanK, setO, handO, this]
  · rw [if_neg h1]
    by_cases h5 : o.d = 5
    · have e : offsZ o.d = [10, 12] := by unfold offsZ; rw [if_neg h1, if_pos h5]
      simp only [e] at h ⊢
      rw [if_pos h5]
      have h0 := h 0 (by simp)
      have h2 := h 1 (by simp)
      cases hm : meantH sp o.a with
      | none => exact absurd hm h0
      | some a =>
        cases ht : meantH sp o.t with
        | none => exact absurd ht h2
        | some t =>
          have e1 := meant_eq hm
          have e2 := meant_eq ht
          simp [meanK, setO, handO, e1, e2]
    · have e : offsZ o.d = [] := by unfold offsZ; rw [if_neg h1, if_neg h5]
      rw [if_neg h5, e]; rfl
/-- the cells of an operation where its handles lie -/
theorem op_drop10 (o : OpM) (hv : o.b.v.length = 8) : o.list.drop 10 = [o.a.1, o.a.2, o.t.1, o.t.2, o.k, o.n] := by
  have : o.list = ([o.d] ++ o.b.list) ++ [o.a.1, o.a.2, o.t.1, o.t.2, o.k, o.n] := rfl
  rw [this, List.drop_left' (by simp [Beast.list, hv])]
theorem op_hand {o : OpM} (hv : o.b.v.length = 8) {off : Nat} (h : off = 10 ∨ off = 12) : (o.list.drop off).take 2 = [(handO o off).1, (handO o off).2] := by
  rcases h with rfl | rfl
  · rw [op_drop10 o hv]; rfl
  · rw [show (12 : Nat) = 10 + 2 from rfl, ← List.drop_drop, op_drop10 o hv]; rfl
theorem op_set {o : OpM} (hv : o.b.v.length = 8) {off : Nat} (h : off = 10 ∨ off = 12) (x : Hd) : o.list.take off ++ [x.1, x.2] ++ o.list.drop (off + 2) = (setO o off x).list := by
  have e : ∀ o' : OpM, o'.list = ([o'.d] ++ o'.b.list) ++ [o'.a.1, o'.a.2, o'.t.1, o'.t.2, o'.k, o'.n] := fun _ => rfl
  have hl : ([o.d] ++ o.b.list).length = 10 := by simp [Beast.list, hv]
  rcases h with rfl | rfl
  · rw [show 10 + 2 = 10 + 2 from rfl, ← List.drop_drop, op_drop10 o hv, e o, List.take_left' hl]
    unfold setO
    rw [if_pos rfl, e]
    simp
  · have h2 : o.list.take 12 = ([o.d] ++ o.b.list) ++ [o.a.1, o.a.2] := by
      rw [e o, List.take_append, hl, List.take_of_length_le (by omega)]; rfl
    rw [h2, show 12 + 2 = 10 + 4 from rfl, ← List.drop_drop, op_drop10 o hv]
    unfold setO
    rw [if_neg (by decide), e]
    simp

section
variable {G : Nat → Prop} {w0 w : World} {l : List Assn} {ob : Nat} {o : OpM}
abbrev PtrsA (v : Value) (ob : Nat) (offs : List Nat) : Assn := RowA 120 1 v offs.length (offs.map fun o => Value.pointer (some ⟨ob, o, none⟩))
set_option maxHeartbeats 2000000 in
set_option maxRecDepth 100000 in
theorem looks_in (h : In G w0 (Box ob 35 (ints o.list) :: l) w) :
    Calls Tryz.prog 41 #[.pointer (some ⟨ob, 0, none⟩)] w fun e w' => ∃ v, e = .returned v ∧ In G w0 (PtrsA v ob (offsZ o.d) :: Box ob 35 (ints o.list) :: l) w' := by
  have q0 : w.cell? ⟨ob, 0, none⟩ = some (.int .i64 o.d) := h.blk.cell 0
  have H := Lib.hid h
  clear h
  have HONE : Hid (offsZ o.d = [10] → In G w0 (PtrsA (.slice (some ⟨w.heap.size, 0, none⟩) 1 1) ob (offsZ o.d) :: Box ob 35 (ints o.list) :: l) (w.alloc (.cells #[.pointer (some ⟨ob, 10, none⟩)] 120))) := fun e => by
    rw [e]; exact H.out.newLit 120 1 1 [.pointer (some ⟨ob, 10, none⟩)] rfl (by decide)
  have HTWO : Hid (offsZ o.d = [10, 12] → In G w0 (PtrsA (.slice (some ⟨w.heap.size, 0, none⟩) 2 2) ob (offsZ o.d) :: Box ob 35 (ints o.list) :: l) (w.alloc (.cells #[.pointer (some ⟨ob, 10, none⟩), .pointer (some ⟨ob, 12, none⟩)] 120))) := fun e => by
    rw [e]; exact H.out.newLit 120 1 2 [.pointer (some ⟨ob, 10, none⟩), .pointer (some ⟨ob, 12, none⟩)] rfl (by decide)
  have HNO : Hid (offsZ o.d = [] → In G w0 (PtrsA (.slice none 0 0) ob (offsZ o.d) :: Box ob 35 (ints o.list) :: l) w) := fun e => by
    rw [e]; exact H.out.nilRow 120 1
  have HOFF : Hid (∀ d, offsZ d = if d = 2 ∨ d = 3 ∨ d = 4 ∨ d = 6 then [10] else if d = 5 then [10, 12] else []) := fun d => rfl
  generalize o.d = d at *
  go_enter Tryz.func41, Tryz.ntmps41
  by_cases h2 : d = 2
  · have hd : (d == 2) = true := by simp [h2]
    have HE : Hid (offsZ d = [10]) := by rw [HOFF.out, if_pos (Or.inl h2)]; rfl
    go_wp2_with fail
    go_ret
    exact ⟨_, rfl, HONE.out HE.out⟩
  have hd2 : (d == 2) = false := by simp [h2]
  by_cases h3 : d = 3
  · have hd : (d == 3) = true := by simp [h3]
    have HE : Hid (offsZ d = [10]) := by rw [HOFF.out, if_pos (Or.inr (Or.inl h3))]; rfl
    go_wp2_with fail
    go_ret
    exact ⟨_, rfl, HONE.out HE.out⟩
  have hd3 : (d == 3) = false := by simp [h3]
  by_cases h4 : d = 4
  · have hd : (d == 4) = true := by simp [h4]
    have HE : Hid (offsZ d = [10]) := by rw [HOFF.out, if_pos (Or.inr (Or.inr (Or.inl h4)))]; rfl
    go_wp2_with fail
    go_ret
    exact ⟨_, rfl, HONE.out HE.out⟩
  have hd4 : (d == 4) = false := by simp [h4]
  by_cases h6 : d = 6
  · have hd : (d == 6) = true := by simp [h6]
    have HE : Hid (offsZ d = [10]) := by rw [HOFF.out, if_pos (Or.inr (Or.inr (Or.inr h6)))]; rfl
    go_wp2_with fail
    go_ret
    exact ⟨_, rfl, HONE.out HE.out⟩
  have hd6 : (d == 6) = false := by simp [h6]
  have hno : ¬ (d = 2 ∨ d = 3 ∨ d = 4 ∨ d = 6) := by omega
  by_cases h5 : d = 5
  · have hd : (d == 5) = true := by simp [h5]
    have HE : Hid (offsZ d = [10, 12]) := by rw [HOFF.out, if_neg hno, if_pos h5]; rfl
    go_wp2_with fail
    go_region
    all_goals
      go_wp2_with fail
      go_ret
      exact ⟨_, rfl, (HTWO.out HE.out).drew⟩
  have hd5 : (d == 5) = false := by simp [h5]
  have HE : Hid (offsZ d = []) := by rw [HOFF.out, if_neg hno, if_neg h5]; rfl
  go_wp2_with fail
  go_ret
  exact ⟨_, rfl, HNO.out HE.out⟩
end

end Go.Proofs.YtpgcghnlepnoiaaGreat

/-
  The contract of vivariumtop.done: a zoo by some operations.
-/
namespace Go.Proofs.YtpgcghnlepnoiaaGreat
open Go.RowKit

section
variable {G : Nat → Prop} {w0 w : World} {l : List Assn} {B : Nat} {A : Option Addr} {c : Nat} {os : List OpM}
set_option maxHeartbeats 2000000 in
set_option maxRecDepth 100000 in
theorem zdoneU_in (hO : OpsAt G w0 B A os) (hlen : os.length ≤ 1099511627776) (hb8 : ∀ o ∈ os, o.b.v.length = 8) (hI : In G w0 l w) :
    Calls Tryz.prog 5 #[.slice A os.length c] w fun e w' => ∃ p, e = .returned (ptr p) ∧ In G w0 (ZooA p (doneZ os) :: l) w' := by
  have HO : Hid (OpsAt G w0 B A os) := hO
  have HI0 := Lib.hid hI
  have H8 := Lib.hid hb8
  clear hI hb8 hO
  go_enter Tryz.func5, Tryz.ntmps5
  go_wp2_with fail
  refine (znew_in HI0.out).mono ?_
  rintro e w2 ⟨p, rfl, hI⟩
  have HI1 := Lib.hid hI
  clear hI HI0
  go_wp2_with fail
  go_loopw [11] (fun i w' => ∃ k : Nat, k ≤ os.length ∧ i = .int .i64 k ∧ In G w0 (ZooA p (doneTo os k) :: l) w') (fun i _ => os.length - (intOf i).toNat)
  case atStart => exact ⟨0, Nat.zero_le _, rfl, HI1.out⟩
  case round =>
    clear HI1
    obtain ⟨k, hk, rfl, hI⟩ := hrel
    have HI := Lib.hid hI
    clear hI
    by_cases hlt : k < os.length
    · have hki : (k : Int) < os.length := by omega
      obtain ⟨b, o, rfl, hbl, q1⟩ := (HO.out HI.out.bare).at_ hlt
      have HS : Hid (doneTo os (k + 1) = (doZ (doneTo os k) os[k]).1) := doneTo_succ os k hlt
      have HOK : Hid (ZOk (doneTo os k)) := doneTo_ok H8.out k
      have HV8 : Hid (os[k].b.v.length = 8) := H8.out _ (List.getElem_mem hlt)
      have h16 : (OpM.list os[k]).length = 16 := OpM.len HV8.out
      generalize os[k] = op at *
      generalize doneTo os k = z at *
      go_upto_region 7 with (fail)
      refine wp_abs (In G w0 (Box wr.heap.size 35 (ints op.list) :: ZooA p z :: l)) (HI.out.struct 35 [0, 0, 0, 0, 0, 0, 0, 0, 0, 0, 0, 0, 0, 0, 0, 0] op.list h16) ?_
      generalize wr.heap.size = ob
      intro w3 hI3
      have q2 : row? w3 ob 0 16 = some (ints op.list) := hI3.blk.row_all h16
      have HI3 := Lib.hid hI3.swap
      clear hI3 q1 HI h16
      go_wp2_with fail
      refine (zdo_in HI3.out HOK.out op HV8.out).mono ?_
      rintro e w4 ⟨rfl, hI4⟩
      have HI4 := Lib.hid hI4
      clear hI4
      go_wp2_with fail
      go_roundw
      case rel => exact ⟨k + 1, by omega, by go_num, by rw [HS.out]; exact HI4.out.swap.drop⟩
      case measure => simp [intOf]; omega
    · have : k = os.length := by omega
      subst this
      have HF : Hid (doneTo os os.length = doneZ os) := by unfold Hid doneTo; rw [List.take_length]
      rw [HF.out] at HI
      go_wp2_with fail
      go_ret
      exact ⟨p, rfl, HI.out⟩
end

end Go.Proofs.YtpgcghnlepnoiaaGreat
