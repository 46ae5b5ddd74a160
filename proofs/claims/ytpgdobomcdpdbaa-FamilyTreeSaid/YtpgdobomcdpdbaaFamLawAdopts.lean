/-
  The walk of the law FamilyAdopts.
-/
import Derived.Test.YtpgdobomcdpdbaaFamLawGone
namespace Go.Proofs.Ytpgdobomcdpdbaa
open Go.RowKit

noncomputable def loopB (m : Fam) (c q : Hd) : Bool := decide (c = q) || decide (q ∈ under m c)
theorem adopt_loop {m : Fam} (hm : FamOk m) {c q : Hd} (h : loopB m c q = true) : adoptR m c q = (m, 8) := by
  unfold loopB at h
  rw [Bool.or_eq_true, decide_eq_true_eq, decide_eq_true_eq, mem_under hm.nodup hm.acyc] at h
  unfold adoptR
  rw [if_pos h]
theorem adopt_free {m : Fam} (hm : FamOk m) {c q : Hd} (h : loopB m c q = false) : adoptR m c q = (mput m c q, 0) ∧ FamOk (mput m c q) := by
  unfold loopB at h
  rw [Bool.or_eq_false_iff, decide_eq_false_iff_not, decide_eq_false_iff_not, mem_under hm.nodup hm.acyc] at h
  have e : adoptR m c q = (mput m c q, 0) := by
    unfold adoptR
    rw [if_neg]
    rintro (e | e)
    · exact h.1 e
    · exact h.2 e
  have := hm.adopt c q
  rw [e] at this
  exact ⟨e, this⟩
theorem adopted {m : Fam} {c q : Hd} (hm : FamOk (mput m c q)) : c ∈ under (mput m c q) q := (mem_under hm.nodup hm.acyc).2 (.one (by rw [mget_mput, if_pos rfl]))
theorem adopt_keeps {m : Fam} {c q : Hd} (hm : FamOk m) (hm' : FamOk (mput m c q)) {b : Hd × Hd} (hb : b ∈ bondsOf m) (hne : b.1 ≠ c) : b ∈ bondsOf (mput m c q) := by
  rw [mem_bonds hm'.nodup, mget_mput, if_neg hne]
  exact (mem_bonds hm.nodup).1 hb
theorem loosened {m : Fam} {c q : Hd} (hm' : FamOk (mput m c q)) : loosenR (mput m c q) c = (mdel (mput m c q) c, 0) ∧ loosenR (mdel (mput m c q) c) c = (mdel (mput m c q) c, 5) ∧ c ∉ under (mdel (mput m c q) c) q := by
  have hok := hm'.loosen c
  have e1 : loosenR (mput m c q) c = (mdel (mput m c q) c, 0) := by unfold loosenR; rw [if_pos (by rw [mget_mput, if_pos rfl]; rfl)]
  rw [e1] at hok
  have hn : mget (mdel (mput m c q) c) c = none := by rw [mget_mdel, if_pos rfl]
  refine ⟨e1, ?_, fun h => ?_⟩
  · unfold loosenR; rw [if_neg (by rw [hn]; simp)]
  · exact Up.none hn ((mem_under hok.nodup hok.acyc).1 h)

set_option maxHeartbeats 8000000 in
set_option maxRecDepth 100000 in
theorem familyAdopts_any (A : Option Addr) (n : Nat) (os : List OpM) (c q : Hd) (w : World) (H : OpsIn w w.heap.size A os) (hlen : os.length ≤ 1099511627744) (hb8 : ∀ o ∈ os, o.b.v.length = 8) :
    Calls Try.prog 7 #[.slice A os.length n, hdV c, hdV q] w fun e w' => e = .returned (.bool true) ∧ Below w.heap.size w w' := by
  have H := Lib.hid H
  have H8 := Lib.hid hb8
  clear hb8
  obtain ⟨c1, c2⟩ := c
  obtain ⟨q1, q2⟩ := q
  rw [hdV_eq, hdV_eq]
  have HEQ : Hid (∀ (a b c d : Int) W, (binOp .eql 36 (.agg (ints [a, b])) (.agg (ints [c, d]))).run Try.prog W = .ok (.bool (decide ((a, b) = (c, d)))) W) := fun a b c d W => by rw [eql_handle _ _ rfl rfl W, dec_list2]
  have HNEQ : Hid (∀ (a b c d : Int) W, (binOp .neq 36 (.agg (ints [a, b])) (.agg (ints [c, d]))).run Try.prog W = .ok (.bool (!decide ((a, b) = (c, d)))) W) := fun a b c d W => by rw [neq_handle _ _ rfl rfl W, dec_list2]
  go_enter Try.func7, Try.ntmps7
  go_upto_region 1 with (fail)
  refine wp_abs (In (fun _ => False) w [Box (w.heap.size + 1) 36 (ints [q1, q2]), Box w.heap.size 36 (ints [c1, c2])]) (by
    have := ((In.nil w (fun _ => False)).alloc 36 (ints [c1, c2])).alloc 36 (ints [q1, q2])
    rwa [World.size_alloc] at this) ?_
  generalize w.heap.size + 1 = qb
  generalize w.heap.size = cb
  intro w1 hI
  have HI0 := Lib.hid hI
  clear hI
  go_wp2_with fail
  refine (related_any w1).mono ?_
  rintro e w2 ⟨rfl, hb2⟩
  have HI1 := Lib.hid (HI0.out.below hb2)
  clear hb2 HI0
  go_wp2_with fail
  refine (grown_in H.out (by omega) H8.out HI1.out).mono ?_
  rintro e w3 ⟨p, rfl, hI⟩
  have hml : (growsR os).length ≤ 1099511627744 := Nat.le_trans (growsR_len os) hlen
  have HOK := Lib.hid (growsR_ok os)
  generalize growsR os = m at *
  have HI2 := Lib.hid hI
  clear hI HI1 H H8 hlen
  go_wp2_with fail
  refine (fbonds_in HI2.out (by omega)).mono ?_
  rintro e w4 ⟨bv, rfl, hI⟩
  obtain ⟨bA, bc, rfl, _, hbc, _⟩ := rowB_at hI.rowAt
  have hbl : (bondsOf m).length ≤ 1099511627776 := by rw [bonds_len]; omega
  have k1 : row? w4 cb 0 2 = some (ints [c1, c2]) := hI.fourth.blk.row_all (xs := [c1, c2]) rfl
  have k2 : row? w4 qb 0 2 = some (ints [q1, q2]) := hI.third.blk.row_all (xs := [q1, q2]) rfl
  have HI3 : Hid (In (fun _ => False) w [FamA p m, RowB (.slice bA (bondsOf m).length bc) (bondsOf m), Box qb 36 (ints [q1, q2]), Box cb 36 (ints [c1, c2])] w4) := hI.swap
  have hml2 : m.length ≤ 1099511627776 := by omega
  have HML := Lib.hid hml2
  have HMLM : Hid (m.length + 1 ≤ 1099511627776) := by unfold Hid; omega
  clear hI HI2 hml
  have HLP : Hid (loopB m (c1, c2) (q1, q2) = (decide ((c1, c2) = (q1, q2)) || decide ((q1, q2) ∈ under m (c1, c2)))) := rfl
  have hn := HEQ.out c1 c2 q1 q2
  -- the test for a loop: two ways, one value
  have key : ∀ (w5 : World), In (fun _ => False) w [FamA p m, RowB (.slice bA (bondsOf m).length bc) (bondsOf m), Box qb 36 (ints [q1, q2]), Box cb 36 (ints [c1, c2])] w5 → True := fun _ _ => trivial
  clear key
  cases hd : decide ((c1, c2) = (q1, q2))
  · rw [hd] at hn HLP
    clear hd
    have hnl : loopB m (c1, c2) (q1, q2) = decide ((q1, q2) ∈ under m (c1, c2)) := HLP.out
    go_wp2_with fail
    go_region_held3 (fun W => row? W cb 0 2 = some (ints [c1, c2]) ∧ row? W qb 0 2 = some (ints [q1, q2])) (refine ⟨?_, ?_⟩ <;> assumption)
      (first
        | (go_at_call 27; refine (hasH_in H4.out (q1, q2)).mono ?_; rintro e w6 ⟨rfl, hb6⟩; have s1' := row_after hb6 s1; have s2' := row_after hb6 s2; rw [← hnl]; have H5 := Lib.hid (H4.out.below hb6).drop; clear hb6)
        | (go_at_call 25; refine (funder_in HI3.out.drew HML.out (c1, c2)).mono ?_; rintro e w5 ⟨uv, rfl, hI5⟩; have s1 : row? w5 cb 0 2 = some (ints [c1, c2]) := hI5.fifth.blk.row_all (xs := [c1, c2]) rfl; have s2 : row? w5 qb 0 2 = some (ints [q1, q2]) := hI5.fourth.blk.row_all (xs := [q1, q2]) rfl; have H4 := Lib.hid hI5; clear hI5))
    rw [← hnl]
    cases hlv : loopB m (c1, c2) (q1, q2)
    · have HL := Lib.hid hlv
      clear hlv hnl hn HLP
      go_upto_region 8 with (fail)
      refine wp_abs (In (fun _ => False) w [FamA p m, RowB (.slice bA (bondsOf m).length bc) (bondsOf m), Box qb 36 (ints [q1, q2]), Box cb 36 (ints [c1, c2])]) H5.out ?_
      intro w7 hI7
      have k1 : row? w7 cb 0 2 = some (ints [c1, c2]) := hI7.fourth.blk.row_all rfl
      have k2 : row? w7 qb 0 2 = some (ints [q1, q2]) := hI7.third.blk.row_all rfl
      have HI7 := Lib.hid hI7
      obtain ⟨e1, hok'⟩ := adopt_free HOK.out HL.out
      have HE1 := Lib.hid e1
      have HOK' := Lib.hid hok'
      have HADO := Lib.hid (adopted hok')
      have HKEEP : Hid (∀ b ∈ bondsOf m, b.1 ≠ (c1, c2) → b ∈ bondsOf (mput m (c1, c2) (q1, q2))) := fun b hb hne => adopt_keeps HOK.out hok' hb hne
      have HLO := Lib.hid (loosened hok')
      have hml' : (mput m (c1, c2) (q1, q2)).length ≤ 1099511627776 := Nat.le_trans (mput_len _ _ _) HMLM.out
      have HML' := Lib.hid hml'
      clear hI7 H5 e1 hok' hml'
      go_wp2_with fail
      refine (fadopt_in HI7.out (c1, c2) (q1, q2)).mono ?_
      rintro e w8 ⟨rfl, hI8⟩
      rw [HE1.out] at hI8
      rw [HE1.out]
      have HI8 := Lib.hid hI8
      clear hI8 HI7 k1 k2
      go_wp2_with fail
      refine (fbonds_in HI8.out HML'.out).mono ?_
      rintro e w9 ⟨nv, rfl, hI9⟩
      obtain ⟨nA, nc, rfl, _, _, _⟩ := rowB_at hI9.rowAt
      generalize hms : mput m (c1, c2) (q1, q2) = m' at *
      have k1 : row? w9 cb 0 2 = some (ints [c1, c2]) := hI9.fifth.blk.row_all rfl
      have k2 : row? w9 qb 0 2 = some (ints [q1, q2]) := hI9.fourth.blk.row_all rfl
      have HI9 : Hid (In (fun _ => False) w [FamA p m', RowB (.slice nA (bondsOf m').length nc) (bondsOf m'), RowB (.slice bA (bondsOf m).length bc) (bondsOf m), Box qb 36 (ints [q1, q2]), Box cb 36 (ints [c1, c2])] w9) := hI9.swap
      clear hI9 HI8 hms
      go_wp2_with fail
      go_region_held3 (fun W => row? W cb 0 2 = some (ints [c1, c2]) ∧ row? W qb 0 2 = some (ints [q1, q2])) (refine ⟨?_, ?_⟩ <;> assumption)
        (first
          | (go_at_call 27; refine (hasH_in H4b.out (c1, c2)).mono ?_; rintro e w6 ⟨rfl, hb6⟩; rw [decide_eq_true HADO.out]; have s1' := row_after hb6 s1; have s2' := row_after hb6 s2; have H5b := Lib.hid (H4b.out.below hb6).drop; clear hb6)
          | (go_at_call 25; refine (funder_in HI9.out.drew HML'.out (q1, q2)).mono ?_; rintro e w5 ⟨uv, rfl, hI5⟩; have s1 : row? w5 cb 0 2 = some (ints [c1, c2]) := hI5.drop.fifth.blk.row_all (xs := [c1, c2]) rfl; have s2 : row? w5 qb 0 2 = some (ints [q1, q2]) := hI5.fifth.blk.row_all (xs := [q1, q2]) rfl; have H4b := Lib.hid hI5; clear hI5))
      go_upto_region 14 with (fail)
      refine wp_abs (In (fun _ => False) w [FamA p m', RowB (.slice nA (bondsOf m').length nc) (bondsOf m'), RowB (.slice bA (bondsOf m).length bc) (bondsOf m), Box qb 36 (ints [q1, q2]), Box cb 36 (ints [c1, c2])]) H5b.out ?_
      intro w10 hI10
      have HI10 := Lib.hid hI10
      generalize bondsOf m = bs at *
      clear hI10 H5b H4b HI9 k1 k2
      go_wp2_with fail
      go_loopw [58] (fun i w' => ∃ k : Nat, k ≤ bs.length ∧ i = .int .i64 k ∧ In (fun _ => False) w [FamA p m', RowB (.slice nA (bondsOf m').length nc) (bondsOf m'), RowB (.slice bA bs.length bc) bs, Box qb 36 (ints [q1, q2]), Box cb 36 (ints [c1, c2])] w') (fun i _ => bs.length - (intOf i).toNat)
      case atStart => exact ⟨0, Nat.zero_le _, rfl, HI10.out⟩
      case round =>
        clear HI10
        obtain ⟨k, hk, rfl, hI⟩ := hrel
        have HI := Lib.hid hI
        clear hI
        by_cases hlt : k < bs.length
        · have hki : (k : Int) < bs.length := by omega
          obtain ⟨A', c', e0, _, hkc, hrow⟩ := rowB_at HI.out.third.rowAt
          injection e0 with e1 e2 e3
          subst e1; subst e3
          obtain ⟨g, rfl, r1⟩ := hrow k hlt
          have hkc' : (bs.length : Int) ≤ bc := by omega
          have HKX : Hid (bs[k].1 ≠ (c1, c2) → bs[k] ∈ bondsOf m') := fun h => HKEEP.out _ (List.getElem_mem hlt) h
          clear hrow e2
          generalize bs[k] = x at *
          obtain ⟨⟨x1, x2⟩, ⟨x3, x4⟩⟩ := x
          go_upto_region 17 with (fail)
          refine wp_abs (In (fun _ => False) w [Box wr.heap.size 59 (ints [x1, x2, x3, x4]), FamA p m', RowB (.slice nA (bondsOf m').length nc) (bondsOf m'), RowB (.slice (some ⟨g, 0, none⟩) bs.length bc) bs, Box qb 36 (ints [q1, q2]), Box cb 36 (ints [c1, c2])]) (HI.out.struct 59 [0, 0, 0, 0] [x1, x2, x3, x4] rfl) ?_
          generalize wr.heap.size = xb
          intro w11 hI11
          have r2 : row? w11 xb 0 2 = some (ints [x1, x2]) := hI11.blk.row_ints 0 2 (by simp)
          have r3 : row? w11 xb 0 4 = some (ints [x1, x2, x3, x4]) := hI11.blk.row_all rfl
          have r4 : row? w11 cb 0 2 = some (ints [c1, c2]) := hI11.drop.fifth.blk.row_all rfl
          have HI11 := Lib.hid hI11.drop
          have hn1 := HNEQ.out x1 x2 c1 c2
          clear hI11 r1 HI
          cases hd1 : decide ((x1, x2) = (c1, c2))
          · have HIN : Hid (decide (((x1, x2), (x3, x4)) ∈ bondsOf m') = true) := by
              unfold Hid; rw [decide_eq_true_eq]; exact HKX.out (by simpa using hd1)
            rw [hd1] at hn1
            clear hd1
            go_wp2_with fail
            refine (hasB_in HI11.out.swap ((x1, x2), (x3, x4))).mono ?_
            rintro e w12 ⟨rfl, hb12⟩
            rw [HIN.out]
            have HI12 := Lib.hid (HI11.out.below hb12)
            clear hb12 HI11 r2 r3 r4 hn1
            go_wp2_with fail
            go_roundw
            case rel => exact ⟨k + 1, by omega, by go_num, HI12.out⟩
            case measure => simp [intOf]; omega
          · rw [hd1] at hn1
            clear hd1
            go_wp2_with fail
            go_roundw
            case rel => exact ⟨k + 1, by omega, by go_num, HI11.out⟩
            case measure => simp [intOf]; omega
        · have : k = bs.length := by omega
          subst this
          have k1 : row? wr cb 0 2 = some (ints [c1, c2]) := HI.out.fifth.blk.row_all rfl
          have k2 : row? wr qb 0 2 = some (ints [q1, q2]) := HI.out.fourth.blk.row_all rfl
          have HI9 : Hid (In (fun _ => False) w [FamA p m', RowB (.slice bA bs.length bc) bs, Box qb 36 (ints [q1, q2]), Box cb 36 (ints [c1, c2])] wr) := HI.out.swap.drop
          have HNU : Hid (decide ((c1, c2) ∈ under (mdel m' (c1, c2)) (q1, q2)) = false) := by
            unfold Hid; rw [decide_eq_false_iff_not]; exact HLO.out.2.2
          have hml2 : (mdel m' (c1, c2)).length ≤ 1099511627776 := Nat.le_trans (mdel_len _ _) HML'.out
          have HML2 := Lib.hid hml2
          clear HI hml2
          go_wp2_with fail
          go_region_held3 (fun W => row? W cb 0 2 = some (ints [c1, c2]) ∧ row? W qb 0 2 = some (ints [q1, q2])) (refine ⟨?_, ?_⟩ <;> assumption)
            (first
              | (go_at_call 27; refine (hasH_in H8.out (c1, c2)).mono ?_; rintro e w6 ⟨rfl, hb6⟩; rw [HNU.out]; have s1' := row_after hb6 s1; have s2' := row_after hb6 s2; have H9 := Lib.hid (H8.out.below hb6).drop; clear hb6)
              | (go_at_call 25; refine (funder_in H7.out HML2.out (q1, q2)).mono ?_; rintro e w5 ⟨uv, rfl, hI5⟩; have s1 : row? w5 cb 0 2 = some (ints [c1, c2]) := hI5.fifth.blk.row_all (xs := [c1, c2]) rfl; have s2 : row? w5 qb 0 2 = some (ints [q1, q2]) := hI5.fourth.blk.row_all (xs := [q1, q2]) rfl; have H8 := Lib.hid hI5; clear hI5)
              | (go_at_call 32; refine (floosen_in H6.out (c1, c2)).mono ?_; rintro e w4 ⟨rfl, hI4⟩; rw [HLO.out.2.1] at hI4; rw [HLO.out.2.1]; have s1 : row? w4 cb 0 2 = some (ints [c1, c2]) := hI4.fourth.blk.row_all rfl; have s2 : row? w4 qb 0 2 = some (ints [q1, q2]) := hI4.third.blk.row_all rfl; have H7 := Lib.hid hI4; clear hI4)
              | (go_at_call 32; refine (floosen_in HI9.out.drew (c1, c2)).mono ?_; rintro e w4 ⟨rfl, hI4⟩; rw [HLO.out.1] at hI4; rw [HLO.out.1]; have s1 : row? w4 cb 0 2 = some (ints [c1, c2]) := hI4.fourth.blk.row_all rfl; have s2 : row? w4 qb 0 2 = some (ints [q1, q2]) := hI4.third.blk.row_all rfl; have H6 := Lib.hid hI4; clear hI4))
          go_wp2_with fail
          go_ret
          exact ⟨rfl, H9.out.below0⟩
    · have HL := Lib.hid hlv
      clear hlv hnl hn HLP
      go_upto_region 8 with (fail)
      refine wp_abs (In (fun _ => False) w [FamA p m, RowB (.slice bA (bondsOf m).length bc) (bondsOf m), Box qb 36 (ints [q1, q2]), Box cb 36 (ints [c1, c2])]) H5.out ?_
      intro w7 hI7
      have k1 : row? w7 cb 0 2 = some (ints [c1, c2]) := hI7.fourth.blk.row_all rfl
      have k2 : row? w7 qb 0 2 = some (ints [q1, q2]) := hI7.third.blk.row_all rfl
      have HI7 := Lib.hid hI7
      clear hI7 H5
      go_wp2_with fail
      refine (fadopt_in HI7.out (c1, c2) (q1, q2)).mono ?_
      rintro e w8 ⟨rfl, hI8⟩
      rw [adopt_loop HOK.out HL.out] at hI8
      rw [adopt_loop HOK.out HL.out]
      have HI8 := Lib.hid hI8
      clear hI8 HI7 k1 k2
      go_wp2_with fail
      refine (fbonds_in HI8.out HML.out).mono ?_
      rintro e w9 ⟨nv, rfl, hI9⟩
      have HI9 := Lib.hid hI9.third
      clear hI9 HI8
      go_wp2_with fail
      refine (eqB_in HI9.out).mono ?_
      rintro e w10 ⟨rfl, hb10⟩
      have HI10 := Lib.hid (HI9.out.below hb10)
      clear hb10 HI9
      rw [decide_eq_true (rfl : bondsOf m = bondsOf m)]
      go_wp2_with fail
      go_ret
      exact ⟨rfl, HI10.out.below0⟩
  · rw [hd] at hn HLP
    have HL : Hid (loopB m (c1, c2) (q1, q2) = true) := by rw [Hid, HLP.out]; rfl
    clear hd HLP
    go_wp2_with fail
    go_quiet (fail)
    have H5 := Lib.hid (HI3.out.below (w' := w4.drewN nq) ⟨rfl, rfl, rfl, Nat.le_refl _, fun _ _ => rfl⟩)
    clear hn
    go_upto_region 8 with (fail)
    refine wp_abs (In (fun _ => False) w [FamA p m, RowB (.slice bA (bondsOf m).length bc) (bondsOf m), Box qb 36 (ints [q1, q2]), Box cb 36 (ints [c1, c2])]) H5.out ?_
    intro w7 hI7
    have k1 : row? w7 cb 0 2 = some (ints [c1, c2]) := hI7.fourth.blk.row_all rfl
    have k2 : row? w7 qb 0 2 = some (ints [q1, q2]) := hI7.third.blk.row_all rfl
    have HI7 := Lib.hid hI7
    clear hI7 H5
    go_wp2_with fail
    refine (fadopt_in HI7.out (c1, c2) (q1, q2)).mono ?_
    rintro e w8 ⟨rfl, hI8⟩
    rw [adopt_loop HOK.out HL.out] at hI8
    rw [adopt_loop HOK.out HL.out]
    have HI8 := Lib.hid hI8
    clear hI8 HI7 k1 k2
    go_wp2_with fail
    refine (fbonds_in HI8.out HML.out).mono ?_
    rintro e w9 ⟨nv, rfl, hI9⟩
    have HI9 := Lib.hid hI9.third
    clear hI9 HI8
    go_wp2_with fail
    refine (eqB_in HI9.out).mono ?_
    rintro e w10 ⟨rfl, hb10⟩
    have HI10 := Lib.hid (HI9.out.below hb10)
    clear hb10 HI9
    rw [decide_eq_true (rfl : bondsOf m = bondsOf m)]
    go_wp2_with fail
    go_ret
    exact ⟨rfl, HI10.out.below0⟩

end Go.Proofs.Ytpgdobomcdpdbaa
