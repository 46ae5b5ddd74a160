/-
  Several texts in one (merged by a program of mine): Plan.
-/
import Derived.Test.YtpgcghnlepnoiaaGreatMP23
set_option linter.unusedVariables false
set_option linter.unusedSimpArgs false
set_option linter.unusedSectionVars false
/-
  The contract of system.Plan.
-/
namespace Go.Proofs.YtpgcghnlepnoiaaGreat
open Go.RowKit

/-- the plan as it grows -/
def growN (ss : List Sys) (n i : Nat) (x : Int) : List Int := planN ss i ++ x :: List.replicate (n - i - 1) 0
theorem grow_start (ss : List Sys) (n i : Nat) (h : i < n) : planN ss i ++ List.replicate (n - i) 0 = growN ss n i 0 := by
  unfold growN
  rw [show n - i = (n - i - 1) + 1 from by omega, List.replicate_succ]; simp
theorem grow_end (ss : List Sys) (n i : Nat) : growN ss n i (planAt ss (planN ss i) (ss.getD i zeroSys) i) = planN ss (i + 1) ++ List.replicate (n - (i + 1)) 0 := by
  unfold growN
  rw [planN, List.append_assoc, show n - (i + 1) = n - i - 1 from by omega]; rfl
theorem grow_set (ss : List Sys) (n i : Nat) (x y : Int) : (growN ss n i x).set i y = growN ss n i y := by
  unfold growN
  rw [List.set_append_right _ _ (by rw [planN_len]; omega), planN_len, Nat.sub_self]; rfl
theorem grow_at (ss : List Sys) (n i : Nat) (x : Int) : (ints (growN ss n i x))[i]? = some (.int .i64 x) := by
  rw [ints_get]; simp [growN, List.getElem?_append, planN_len]
theorem grow_pre (ss : List Sys) (n i k : Nat) (x : Int) (hk : k < i) : (ints (growN ss n i x))[k]? = some (.int .i64 ((planN ss i).getD k 0)) := by
  rw [ints_get]
  have : k < (planN ss i).length := by rw [planN_len]; exact hk
  simp [growN, List.getElem?_append, planN_len, hk, List.getD, List.getElem?_eq_getElem this]

theorem ret_plan {v : Value} {n m : Int} (h : n = m) : Ending.returned (.tuple #[v, .int .i64 n]) = .returned (.tuple #[v, .int .i64 m]) := by rw [h]

set_option maxRecDepth 100000 in
set_option maxHeartbeats 4000000 in
theorem plan_any (A : Option Addr) (c : Nat) (ss : List Sys) (w : World) (h : SysIn w w.heap.size A ss) (hn : ss.length ≤ maxLen) :
    Calls Tryz.prog 42 #[.slice A ss.length c] w fun e w' => ∃ v, e = .returned (.tuple #[v, .int .i64 (planRes ss).2]) ∧ OwnI w' w.heap.size v (planRes ss).1 ∧ Below w.heap.size w w' := by
  have H := Lib.hid h
  have hnm : (ss.length : Int) ≤ 9223372036854775807 := by unfold maxLen at hn; omega
  clear h
  go_enter Tryz.func42, Tryz.ntmps42
  by_cases h20 : 20 < ss.length
  · have hd : (decide (20 < (ss.length : Int))) = true := by simp; omega
    have HR : Hid (planRes ss = ([], 2)) := by unfold Hid planRes; rw [if_pos h20]
    go_wp2_with fail
    go_ret2
    exact ⟨_, ret_plan (by rw [HR.out]), by rw [HR.out]; exact OwnI.nil _ _, Below.refl _ _⟩
  have hd : (decide (20 < (ss.length : Int))) = false := by simp; omega
  go_wp2_with fail
  go_loopw [16] (fun i w' => ∃ k : Nat, k ≤ ss.length ∧ i = .int .i64 k ∧ (∀ j, j < k → sysErr (ss.getD j zeroSys) = 0) ∧ Below w.heap.size w w') (fun i _ => ss.length - (intOf i).toNat)
  case atStart => exact ⟨0, by omega, rfl, fun j hj => by omega, Below.refl _ _⟩
  case round =>
    obtain ⟨k, hk, rfl, hbef, hb⟩ := hrel
    have HBEF := Lib.hid hbef
    have HBR := Lib.hid hb
    clear hbef hb
    by_cases hlt : k < ss.length
    · have hki : (k : Int) < ss.length := by omega
      obtain ⟨b, o, rfl, hbl, hrow⟩ := (H.out.below HBR.out).at_ hlt
      generalize hS : ss.getD k zeroSys = s at *
      have HS := Lib.hid hS
      clear hS
      go_upto_region 6 with (fail)
      refine wp_abs (fun w' => Blk w' wr.heap.size 54 (ints s.list) ∧ Below wr.heap.size wr w') ⟨blk_new_put wr 54 [0, 0, 0, 0, 0, 0, 0] _ rfl, below_new_put wr 54 [0, 0, 0, 0, 0, 0, 0] _⟩ ?_
      rintro w1 ⟨hs1, hb1⟩
      have fs : row? w1 wr.heap.size 0 7 = some (ints s.list) := hs1.row_all rfl
      have HB1 := Lib.hid (HBR.out.trans (hb1.mono HBR.out.size))
      clear hs1 hb1
      go_wp2_with fail
      refine (check_any s _).mono ?_
      rintro e w2 ⟨rfl, hb2⟩
      have HB2 := Lib.hid (HB1.out.trans (hb2.mono HB1.out.size))
      clear hb2 fs
      by_cases he : sysErr s = 0
      · have HE := Lib.hid he
        rw [he]
        clear he
        go_wp2_with fail
        go_roundw
        case rel =>
          refine ⟨k + 1, by omega, by go_num, fun j hj => ?_, HB2.out⟩
          by_cases hjk : j = k
          · rw [hjk, HS.out]; exact HE.out
          · exact HBEF.out j (by omega)
        case measure => simp [intOf]; omega
      · have HR : Hid (planRes ss = ([], sysErr s)) := by
          have h1 : firstErr (ss.map sysErr) = sysErr s := by
            rw [← HS.out]
            exact firstErr_at hlt HBEF.out (by rw [HS.out]; exact he)
          unfold Hid planRes; rw [if_neg h20, h1, if_neg he]
        have he' : (sysErr s != 0) = true := by simpa using he
        clear he
        generalize sysErr s = E at *
        go_wp2_with fail
        go_ret2
        exact ⟨_, ret_plan (by rw [HR.out]), by rw [HR.out]; exact OwnI.nil _ _, HB2.out⟩
    · have hkn : k = ss.length := by omega
      subst hkn
      have HR : Hid (planRes ss = (planN ss ss.length, 0)) := by
        unfold Hid planRes; rw [if_neg h20, if_pos (firstErr_none HBEF.out)]
      have hmk : ∀ W, (Instr.makeSlice 44 (.int .i64 (ss.length : Int)) (.int .i64 (ss.length : Int))).run Tryz.prog W = .ok (.slice (some ⟨W.heap.size, 0, none⟩) ss.length ss.length) (W.alloc (.cells (ints (List.replicate ss.length 0)) 3)) := run_make_ints ss.length (by omega)
      go_upto_region 11 with (fail)
      refine wp_abs (fun w' => Blk w' wr.heap.size 3 (ints (planN ss 0 ++ List.replicate (ss.length - 0) 0)) ∧ Below w.heap.size w w') ⟨Blk.new _ _ _, HBR.out.alloc HBR.out.size _⟩ ?_
      rintro w1 ⟨ho1, hb1⟩
      have hg7 : w.heap.size ≤ wr.heap.size := HBR.out.size
      have HO1 := Lib.hid ho1
      have HB1 := Lib.hid hb1
      clear ho1 hb1 HBR HBEF
      generalize wr.heap.size = g7 at *
      go_wp2_with fail
      go_loopw [31] (fun i w' => ∃ k : Nat, k ≤ ss.length ∧ i = .int .i64 k ∧ Blk w' g7 3 (ints (planN ss k ++ List.replicate (ss.length - k) 0)) ∧ Below w.heap.size w w') (fun i _ => ss.length - (intOf i).toNat)
      case atStart => exact ⟨0, by omega, rfl, HO1.out, HB1.out⟩
      case round =>
        clear HO1 HB1
        obtain ⟨i, hi, rfl, ho, hb⟩ := hrel
        have HBR := Lib.hid hb
        by_cases hlt : i < ss.length
        · rw [grow_start ss _ i hlt] at ho
          have HO := Lib.hid ho
          clear ho hb
          have hki : (i : Int) < ss.length := by omega
          obtain ⟨b, o, rfl, hbl, hrow⟩ := (H.out.below HBR.out).at_ hlt
          generalize hS : ss.getD i zeroSys = s at *
          have HS := Lib.hid hS
          clear hS
          go_upto_region 14 with (fail)
          refine wp_abs (fun w' => Blk w' wr.heap.size 54 (ints s.list) ∧ Blk w' g7 3 (ints (growN ss ss.length i 0)) ∧ Below w.heap.size w w') ?_ ?_
          · have hb := below_new_put wr 54 [0, 0, 0, 0, 0, 0, 0] s.list
            exact ⟨blk_new_put wr 54 [0, 0, 0, 0, 0, 0, 0] _ rfl, HO.out.after hb, HBR.out.trans (hb.mono HBR.out.size)⟩
          rintro w2 ⟨hs2, ho2, hb2⟩
          have hg9 : g7 < wr.heap.size := HO.out.lt
          have HS2 := Lib.hid hs2
          have HO2 := Lib.hid ho2
          have HB2 := Lib.hid hb2
          clear hs2 ho2 hb2 HO HBR hrow
          generalize wr.heap.size = g9 at *
          go_wp2_with fail
          go_loopw [37] (fun j w' => ∃ k : Nat, k ≤ i ∧ j = .int .i64 k ∧ Blk w' g9 54 (ints s.list) ∧ Blk w' g7 3 (ints (growN ss ss.length i (planAt ss (planN ss i) s k))) ∧ Below w.heap.size w w') (fun j _ => i - (intOf j).toNat)
          case atStart => exact ⟨0, by omega, rfl, HS2.out, HO2.out, HB2.out⟩
          case round =>
            clear HS2 HO2 HB2
            obtain ⟨k, hk, rfl, hs3, ho3, hb3⟩ := hrel
            have HS3 := Lib.hid hs3
            have HO3 := Lib.hid ho3
            have HB3 := Lib.hid hb3
            clear hs3 ho3 hb3
            by_cases hki : k < i
            · have hkI : (k : Int) < i := by omega
              have hkn : (k : Int) < ss.length := by omega
              obtain ⟨b', o', he, hbl', hrow⟩ := (H.out.below HB3.out).at_ (show k < ss.length by omega)
              cases he
              have hP : Hid (planAt ss (planN ss i) s (k + 1) = if clashI s (ss.getD k zeroSys) then max (planAt ss (planN ss i) s k) ((planN ss i).getD k 0 + 1) else planAt ss (planN ss i) s k) := rfl
              generalize ss.getD k zeroSys = s2 at *
              have c1 := fun n : After wr => n.row (n := 7) HS3.out rfl
              have c2 : ∀ n : After wr, row? n.w b (o + k * 7) 7 = some (ints s2.list) := fun n => (row_below n.below (by have := HO3.out.lt; omega) _ _).trans hrow
              go_upto_region 17 with (fail)
              refine wp_region_after (by kernel_rfl) (by kernel_rfl) ?_
              repeat (go_big_quiet_step (first
                | (go_at_call 68; with_reducible exact quiet_after (clash_any _ _ _))))
              refine wpQuiet_nil ?_
              rintro _ ⟨n, rfl⟩
              have hbn : Hid (Below w.heap.size w n.w) := HB3.out.trans (n.below.mono HB3.out.size)
              have HSn := Lib.hid (HS3.out.after n.below)
              have HOn := Lib.hid (HO3.out.after n.below)
              clear c1 c2 hrow HS3 HO3 HB3
              have bnd := plan_le ss i k hki
              cases hC : clashI s s2
              · have hP' : planAt ss (planN ss i) s (k + 1) = planAt ss (planN ss i) s k := by rw [hP.out, hC]; rfl
                rw [← hP'] at HOn
                clear hP hP' hC
                go_wp2_with fail
                go_roundw
                case rel => exact ⟨k + 1, by omega, by go_num, HSn.out, HOn.out, hbn.out⟩
                case measure => simp [intOf]; omega
              · have hP' : planAt ss (planN ss i) s (k + 1) = max (planAt ss (planN ss i) s k) ((planN ss i).getD k 0 + 1) := by rw [hP.out, hC]; rfl
                have k1 : n.w.cell? ⟨g7, i, none⟩ = some (.int .i64 (planAt ss (planN ss i) s k)) := by rw [HOn.out.cell]; exact grow_at _ _ _ _
                have k2 : n.w.cell? ⟨g7, k, none⟩ = some (.int .i64 ((planN ss i).getD k 0)) := by rw [HOn.out.cell]; exact grow_pre _ _ _ _ _ hki
                have k3 : n.w.frozen? ⟨g7, i, none⟩ = false := HOn.out.frozen i
                have HOs : Hid (∀ y, Blk (n.w.setCell ⟨g7, i, none⟩ (.int .i64 y)) g7 3 (ints (growN ss ss.length i y))) := fun y => by
                  have := HOn.out.set i (.int .i64 y)
                  rwa [ints_set, grow_set] at this
                have HP := Lib.hid hP'
                clear hP hP' hC HOn
                generalize hpk : (planN ss i).getD k 0 = pk at *
                generalize hac : planAt ss (planN ss i) s k = ac at *
                have hsum : IntKind.i64.wrap (pk + 1) = pk + 1 := IntWalk.i64_in _ (by omega)
                go_upto_region 18 with (fail)
                go_still_tail 13, (by kernel_rfl)
                repeat still_step
                change wpList _ _ _ _ _ n.w.drew
                go_wp2_with fail
                go_roundw
                case rel => exact ⟨k + 1, by omega, by go_num, (HSn.out.far (by omega) _ _), by rw [HP.out]; exact HOs.out _, (hbn.out.setCell (p := ⟨g7, i, none⟩) hg7 _).drew⟩
                case measure => simp [intOf]; omega
            · have : k = i := by omega
              subst this
              go_wp2_with fail
              go_roundw
              case rel => 
                refine ⟨k + 1, by omega, by go_num, ?_, HB3.out⟩
                have := HO3.out
                rwa [← HS.out, grow_end] at this
              case measure => simp [intOf]; omega
        · have : i = ss.length := by omega
          subst this
          rw [Nat.sub_self, List.replicate_zero, List.append_nil] at ho
          have HO := Lib.hid ho
          clear ho hb
          go_wp2_with fail
          go_ret2
          refine ⟨_, ret_plan (by rw [HR.out]), ?_, HBR.out⟩
          rw [HR.out]
          have := OwnI.of_blk HO.out hg7 (by rw [planN_len]; exact hn)
          rwa [planN_len] at this

end Go.Proofs.YtpgcghnlepnoiaaGreat
