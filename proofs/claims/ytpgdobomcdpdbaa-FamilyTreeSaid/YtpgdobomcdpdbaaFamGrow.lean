/-
  The closed fact 'related', and 'grown': a family by some ops.
-/
import Derived.Test.YtpgdobomcdpdbaaFamAdopt
import Derived.Test.YtpgdobomcdpdbaaFamLoosen
import Derived.Test.YtpgdobomcdpdbaaFamBonds
import Derived.Test.YtpgdobomcdpdbaaOpsIn
import Derived.Test.YtpgdobomcdpdbaaEqHandle
namespace Go.Proofs.Ytpgdobomcdpdbaa
open Go.RowKit

noncomputable def growR (m : Fam) (o : OpM) : Fam := if o.d = 5 then (adoptR m o.a o.t).1 else if o.d = 6 then (loosenR m o.a).1 else if o.d = 2 then goneR m o.a else m
noncomputable def growsR (os : List OpM) : Fam := os.foldl growR []
theorem growsR_snoc (os : List OpM) (o : OpM) : growsR (os ++ [o]) = growR (growsR os) o := by simp [growsR, List.foldl_append]
theorem growR_ok {m : Fam} (h : FamOk m) (o : OpM) : FamOk (growR m o) := by
  unfold growR
  split
  · exact h.adopt _ _
  · split
    · exact h.loosen _
    · split
      · exact h.gone _
      · exact h
theorem growR_len (m : Fam) (o : OpM) : (growR m o).length ≤ m.length + 1 := by
  unfold growR
  split
  · exact adopt_len _ _ _
  · split
    · exact Nat.le_succ_of_le (loosen_len _ _)
    · split
      · exact Nat.le_succ_of_le (gone_len _ _)
      · exact Nat.le_succ _
theorem grows_aux (os : List OpM) : ∀ m : Fam, FamOk m → FamOk (os.foldl growR m) ∧ (os.foldl growR m).length ≤ m.length + os.length := by
  induction os with
  | nil => exact fun m h => ⟨h, Nat.le_refl _⟩
  | cons o os ih =>
    intro m h
    have h1 := ih (growR m o) (growR_ok h o)
    have h2 := growR_len m o
    refine ⟨h1.1, ?_⟩
    have := h1.2
    rw [List.foldl_cons, List.length_cons]
    omega
theorem growsR_ok (os : List OpM) : FamOk (growsR os) := (grows_aux os [] FamOk.nil).1
theorem growsR_len (os : List OpM) : (growsR os).length ≤ os.length := by
  have := (grows_aux os [] FamOk.nil).2
  unfold growsR
  simpa using this

theorem opZero : (ints (List.replicate 16 0)) = ints [0, 0, 0, 0, 0, 0, 0, 0, 0, 0, 0, 0, 0, 0, 0, 0] := rfl
set_option maxHeartbeats 1000000 in
set_option maxRecDepth 100000 in
theorem grown_in {w w1 : World} {l : List Assn} {A : Option Addr} {c : Nat} {os : List OpM} (H : OpsIn w w.heap.size A os) (hlen : os.length ≤ 1099511627776) (hb8 : ∀ o ∈ os, o.b.v.length = 8) (hI : In (fun _ => False) w l w1) :
    Calls Try.prog 24 #[.slice A os.length c] w1 fun e w' => ∃ p, e = .returned (.pointer (some ⟨p, 0, none⟩)) ∧ In (fun _ => False) w (FamA p (growsR os) :: l) w' := by
  have H := Lib.hid H
  have HI0 := Lib.hid hI
  have H8 := Lib.hid hb8
  clear hI hb8
  go_enter Try.func24, Try.ntmps24
  go_wp2_with fail
  refine (fnew_in HI0.out).mono ?_
  rintro e w2 ⟨p, rfl, hI⟩
  have HI1 := Lib.hid hI
  clear hI HI0
  go_wp2_with fail
  go_loopw [11] (fun i w' => ∃ k : Nat, k ≤ os.length ∧ i = .int .i64 k ∧ In (fun _ => False) w (FamA p (growsR (os.take k)) :: l) w') (fun i _ => os.length - (intOf i).toNat)
  case atStart => exact ⟨0, Nat.zero_le _, rfl, HI1.out⟩
  case round =>
    clear HI1
    obtain ⟨k, hk, rfl, hI⟩ := hrel
    have HI := Lib.hid hI
    clear hI
    by_cases hlt : k < os.length
    · have hki : (k : Int) < os.length := by omega
      obtain ⟨b, o, rfl, hbl, q1⟩ := (H.out.below HI.out.below0).at_ hlt
      have HS : Hid (growsR (os.take (k + 1)) = growR (growsR (os.take k)) os[k]) := by
        unfold Hid; rw [List.take_succ_eq_append_getElem hlt, growsR_snoc]
      have h16 : (OpM.list os[k]).length = 16 := OpM.len (H8.out _ (List.getElem_mem hlt))
      generalize os[k] = op at *
      generalize growsR (os.take k) = m at *
      go_upto_region 7 with (fail)
      refine wp_abs (In (fun _ => False) w (Box wr.heap.size 103 (ints op.list) :: FamA p m :: l)) (HI.out.struct 103 [0, 0, 0, 0, 0, 0, 0, 0, 0, 0, 0, 0, 0, 0, 0, 0] op.list h16) ?_
      generalize wr.heap.size = ob
      intro w3 hI3
      obtain ⟨d, ⟨bk, bv⟩, ⟨a1, a2⟩, ⟨t1, t2⟩, kk, nn⟩ := op
      have hv8 : bv.length = 8 := by simpa [OpM.list, Beast.list] using h16
      have hdrop : (OpM.list ⟨d, ⟨bk, bv⟩, (a1, a2), (t1, t2), kk, nn⟩).drop 10 = [a1, a2, t1, t2, kk, nn] := by
        have : (OpM.list ⟨d, ⟨bk, bv⟩, (a1, a2), (t1, t2), kk, nn⟩) = ([d] ++ (bk :: bv)) ++ [a1, a2, t1, t2, kk, nn] := rfl
        rw [this, List.drop_left' (by simp [hv8])]
      have q2 : row? w3 ob 10 2 = some (ints [a1, a2]) := by
        rw [hI3.blk.row_ints 10 2 (by omega), hdrop]; rfl
      have q3 : row? w3 ob 12 2 = some (ints [t1, t2]) := by
        rw [hI3.blk.row_ints 12 2 (by omega), show (12 : Nat) = 10 + 2 from rfl, ← List.drop_drop, hdrop]; rfl
      have q0 : w3.cell? ⟨ob, 0, none⟩ = some (.int .i64 d) := hI3.blk.cell 0
      have HI3 := Lib.hid hI3.swap
      clear hI3 q1 hdrop HI h16 hv8
      by_cases h5 : d = 5
      · have hd : (d == 5) = true := by simp [h5]
        have HG : Hid (growR m ⟨d, ⟨bk, bv⟩, (a1, a2), (t1, t2), kk, nn⟩ = (adoptR m (a1, a2) (t1, t2)).1) := by unfold Hid growR; rw [if_pos h5]
        clear h5
        go_wp2_with fail
        refine (fadopt_in HI3.out (a1, a2) (t1, t2)).mono ?_
        rintro e w4 ⟨rfl, hI4⟩
        have HI4 := Lib.hid hI4
        clear hI4
        go_wp2_with fail
        go_roundw
        case rel => exact ⟨k + 1, by omega, by go_num, by rw [HS.out, HG.out]; exact HI4.out.swap.drop⟩
        case measure => simp [intOf]; omega
      · have hd : (d == 5) = false := by simp [h5]
        by_cases h6 : d = 6
        · have hd6 : (d == 6) = true := by simp [h6]
          have HG : Hid (growR m ⟨d, ⟨bk, bv⟩, (a1, a2), (t1, t2), kk, nn⟩ = (loosenR m (a1, a2)).1) := by unfold Hid growR; rw [if_neg h5, if_pos h6]
          clear h5 h6
          go_wp2_with fail
          refine (floosen_in HI3.out (a1, a2)).mono ?_
          rintro e w4 ⟨rfl, hI4⟩
          have HI4 := Lib.hid hI4
          clear hI4
          go_wp2_with fail
          go_roundw
          case rel => exact ⟨k + 1, by omega, by go_num, by rw [HS.out, HG.out]; exact HI4.out.swap.drop⟩
          case measure => simp [intOf]; omega
        · have hd6 : (d == 6) = false := by simp [h6]
          by_cases h2 : d = 2
          · have hd2 : (d == 2) = true := by simp [h2]
            have HG : Hid (growR m ⟨d, ⟨bk, bv⟩, (a1, a2), (t1, t2), kk, nn⟩ = goneR m (a1, a2)) := by unfold Hid growR; rw [if_neg h5, if_neg h6, if_pos h2]
            clear h5 h6 h2
            go_wp2_with fail
            refine (fgone_in HI3.out (a1, a2)).mono ?_
            rintro e w4 ⟨rfl, hI4⟩
            have HI4 := Lib.hid hI4
            clear hI4
            go_wp2_with fail
            go_roundw
            case rel => exact ⟨k + 1, by omega, by go_num, by rw [HS.out, HG.out]; exact HI4.out.swap.drop⟩
            case measure => simp [intOf]; omega
          · have hd2 : (d == 2) = false := by simp [h2]
            have HG : Hid (growR m ⟨d, ⟨bk, bv⟩, (a1, a2), (t1, t2), kk, nn⟩ = m) := by unfold Hid growR; rw [if_neg h5, if_neg h6, if_neg h2]
            clear h5 h6 h2
            go_wp2_with fail
            go_roundw
            case rel => exact ⟨k + 1, by omega, by go_num, by rw [HS.out, HG.out]; exact HI3.out.swap.drop⟩
            case measure => simp [intOf]; omega
    · have : k = os.length := by omega
      subst this
      rw [List.take_length] at HI
      go_wp2_with fail
      go_ret
      exact ⟨p, rfl, HI.out⟩

end Go.Proofs.Ytpgdobomcdpdbaa
