/-
  The walk of the law FamilyGone.
-/
import Derived.Test.YtpgdobomcdpdbaaFamRel
namespace Go.Proofs.Ytpgdobomcdpdbaa
open Go.RowKit

theorem rowB_at {w : World} {v : Value} {bs : List (Hd × Hd)} (h : w.ownsRow 0 59 4 v bs.length (bs.flatMap bC)) : ∃ A c, v = .slice A bs.length c ∧ bs.length ≤ c ∧ c ≤ maxLen ∧ ∀ k, (hk : k < bs.length) → ∃ g, A = some ⟨g, 0, none⟩ ∧
    row? w g (k * 4) 4 = some (ints (bL bs[k])) := by
  obtain ⟨A, c, rfl, hc1, hc2, hA⟩ := own_form h
  refine ⟨A, c, rfl, hc1, hc2, fun k hk => ?_⟩
  obtain ⟨g, rfl⟩ := hA (by omega)
  have hr := own_row h hk
  rw [flat_at bC_len bs k hk] at hr
  exact ⟨g, rfl, hr⟩
theorem dec_list2 (a b c d : Int) : decide ([a, b] = [c, d]) = decide ((a, b) = (c, d)) := by
  rw [Bool.eq_iff_iff, decide_eq_true_eq, decide_eq_true_eq]
  constructor
  · intro h
    injection h with h1 h2
    injection h2 with h2 _
    rw [h1, h2]
  · intro h
    injection h with h1 h2
    rw [h1, h2]

def keepB (h : Hd) (b : Hd × Hd) : Bool := !(decide (b.1 = h) || decide (b.2 = h))
set_option maxHeartbeats 4000000 in
set_option maxRecDepth 100000 in
theorem familyGone_any (A : Option Addr) (c : Nat) (os : List OpM) (h : Hd) (w : World) (H : OpsIn w w.heap.size A os) (hlen : os.length ≤ 1099511627776) (hb8 : ∀ o ∈ os, o.b.v.length = 8) :
    Calls Try.prog 9 #[.slice A os.length c, hdV h] w fun e w' => e = .returned (.bool true) ∧ Below w.heap.size w w' := by
  have H := Lib.hid H
  have H8 := Lib.hid hb8
  clear hb8
  obtain ⟨h1, h2⟩ := h
  rw [hdV_eq]
  obtain ⟨i0, hi0, hz0, hz1, hz2⟩ := info_parts bond_parts
  have HNEQ : Hid (∀ (a b c d : Int) W, (binOp .neq 36 (.agg (ints [a, b])) (.agg (ints [c, d]))).run Try.prog W = .ok (.bool (!decide ((a, b) = (c, d)))) W) := fun a b c d W => by rw [neq_handle _ _ rfl rfl W, dec_list2]
  go_enter Try.func9, Try.ntmps9
  go_upto_region 1 with (fail)
  refine wp_abs (In (fun _ => False) w [Box w.heap.size 36 (ints [h1, h2])]) ((In.nil w _).alloc 36 (ints [h1, h2])) ?_
  generalize w.heap.size = hb
  intro w1 hI
  have HI0 := Lib.hid hI
  clear hI
  go_wp2_with fail
  refine (related_any w1).mono ?_
  rintro e w2 ⟨rfl, hb2⟩
  have HI1 := Lib.hid (HI0.out.below hb2)
  clear hb2 HI0
  go_wp2_with fail
  refine (grown_in H.out hlen H8.out HI1.out).mono ?_
  rintro e w3 ⟨p, rfl, hI⟩
  have hml : (growsR os).length ≤ 1099511627776 := Nat.le_trans (growsR_len os) hlen
  have HOK := Lib.hid (growsR_ok os)
  generalize growsR os = m at *
  have HI2 := Lib.hid hI
  clear hI HI1 H H8 hlen
  go_wp2_with fail
  refine (fbonds_in HI2.out hml).mono ?_
  rintro e w4 ⟨bv, rfl, hI⟩
  obtain ⟨bA, bc, rfl, _, _, _⟩ := rowB_at hI.rowAt
  have q1 : row? w4 hb 0 2 = some (ints [h1, h2]) := hI.third.blk.row_all rfl
  have HI3 := Lib.hid hI.swap
  have HBL := Lib.hid (bonds_len m)
  have hbl : (bondsOf m).length ≤ 1099511627776 := by rw [bonds_len]; exact hml
  clear hI HI2
  go_wp2_with fail
  refine (fgone_in HI3.out (h1, h2)).mono ?_
  rintro e w5 ⟨rfl, hI⟩
  have HI4 : Hid (In (fun _ => False) w [RowA 59 4 (.slice none 0 0) 0 [], RowB (.slice bA (bondsOf m).length bc) (bondsOf m), Box hb 36 (ints [h1, h2]), FamA p (goneR m (h1, h2))] w5) := (hI.swap.third.swap).nilRow _ _
  have HBG := Lib.hid (bonds_gone HOK.out.nodup (h1, h2))
  have hgl : (goneR m (h1, h2)).length ≤ 1099511627776 := Nat.le_trans (gone_len _ _) hml
  have HGN : Hid (parentR (goneR m (h1, h2)) (h1, h2) = ((0, 0), false)) := by unfold Hid parentR; rw [gone_none HOK.out.nodup]; rfl
  have HGK := Lib.hid (kids_gone HOK.out.nodup (h1, h2))
  generalize goneR m (h1, h2) = m' at *
  generalize bondsOf m = bs at *
  clear hI HI3 q1
  go_wp2_with fail
  go_loopw [25, 7] (fun i wv w' => ∃ k : Nat, k ≤ bs.length ∧ i = .int .i64 k ∧ In (fun _ => False) w [RowB wv ((bs.take k).filter (keepB (h1, h2))), RowB (.slice bA bs.length bc) bs, Box hb 36 (ints [h1, h2]), FamA p m'] w') (fun i _ _ => bs.length - (intOf i).toNat)
  case atStart => exact ⟨0, Nat.zero_le _, rfl, HI4.out⟩
  case round =>
    clear HI4
    obtain ⟨k, hk, rfl, hI⟩ := hrel
    have HI := Lib.hid hI
    clear hI
    by_cases hlt : k < bs.length
    · have hki : (k : Int) < bs.length := by omega
      obtain ⟨A', c', e0, _, hkc, hrow⟩ := rowB_at HI.out.swap.rowAt
      injection e0 with e1 e2 e3
      subst e1; subst e3
      obtain ⟨g, rfl, q1⟩ := hrow k hlt
      have HS : Hid ((bs.take (k + 1)).filter (keepB (h1, h2)) = (bs.take k).filter (keepB (h1, h2)) ++ (if keepB (h1, h2) bs[k] then [bs[k]] else [])) := by
        unfold Hid
        rw [List.take_succ_eq_append_getElem hlt, List.filter_append]
        congr 1
        cases hkb : keepB (h1, h2) bs[k] <;> simp [List.filter_cons, hkb]
      have hfl : ((bs.take k).filter (keepB (h1, h2))).length + 1 ≤ 1099511627777 := by
        have := List.length_filter_le (keepB (h1, h2)) (bs.take k)
        rw [List.length_take] at this
        omega
      have hkc' : (bs.length : Int) ≤ bc := by omega
      clear hrow e2
      generalize bs[k] = x at *
      obtain ⟨⟨x1, x2⟩, ⟨x3, x4⟩⟩ := x
      generalize (bs.take k).filter (keepB (h1, h2)) = fs at *
      go_upto_region 12 with (fail)
      refine wp_abs (In (fun _ => False) w [Box wr.heap.size 59 (ints [x1, x2, x3, x4]), RowB u7 fs, RowB (.slice (some ⟨g, 0, none⟩) bs.length bc) bs, Box hb 36 (ints [h1, h2]), FamA p m']) (HI.out.struct 59 [0, 0, 0, 0] [x1, x2, x3, x4] rfl) ?_
      generalize wr.heap.size = xb
      intro w6 hI6
      have q2 : row? w6 xb 0 2 = some (ints [x1, x2]) := hI6.blk.row_ints 0 2 (by simp)
      have q3 : row? w6 xb 2 2 = some (ints [x3, x4]) := hI6.blk.row_ints 2 2 (by simp)
      have q5 : row? w6 xb 0 4 = some #[.int .i64 x1, .int .i64 x2, .int .i64 x3, .int .i64 x4] := hI6.blk.row_all (xs := [x1, x2, x3, x4]) rfl
      have q4 : row? w6 hb 0 2 = some (ints [h1, h2]) := hI6.fourth.blk.row_all rfl
      have HI6 := Lib.hid hI6.drop
      have hn1 := HNEQ.out x1 x2 h1 h2
      have hn2 := HNEQ.out x3 x4 h1 h2
      have HO := Lib.hid HI6.out.rowAt
      have HKB : Hid (keepB (h1, h2) ((x1, x2), (x3, x4)) = (!decide ((x1, x2) = (h1, h2)) && !decide ((x3, x4) = (h1, h2)))) := by unfold Hid keepB; simp
      clear hI6 q1 HI
      cases hd1 : decide ((x1, x2) = (h1, h2))
      · cases hd2 : decide ((x3, x4) = (h1, h2))
        · rw [hd1] at hn1 HKB
          rw [hd2] at hn2 HKB
          clear hd1 hd2
          go_wp2_with (at_builtin; go_loud (refine wpList_append1_at rfl _ _ 54 rfl 0 59 i0 _ 4 32 Try.underlying54 hi0 hz0 hz1 hz2 rfl (by decide) u7 fs.length (fs.flatMap bC) rfl HO.out [.int .i64 x1, .int .i64 x2, .int .i64 x3, .int .i64 x4] rfl rfl (by simp [Value.oneCell']) ?_ ?_ (Nat.zero_le _) ?_))
          case refine_1 => unfold maxLen; omega
          case refine_2 => omega
          intro v' w9 ho hg hor
          have HI9 := Lib.hid (In.appendB (x := ((x1, x2), (x3, x4))) HI6.out ho hg hor)
          clear ho hg hor q2 q3 q4 q5 hn1 hn2
          go_wp2_with fail
          go_roundw
          case rel => exact ⟨k + 1, by omega, by go_num, by rw [HS.out, HKB.out]; exact HI9.out⟩
          case measure => simp [intOf]; omega
        · rw [hd1] at hn1 HKB
          rw [hd2] at hn2 HKB
          clear hd1 hd2
          go_wp2_with fail
          go_roundw
          case rel => exact ⟨k + 1, by omega, by go_num, by rw [HS.out, HKB.out]; simpa using HI6.out⟩
          case measure => simp [intOf]; omega
      · rw [hd1] at hn1 HKB
        clear hd1 hn2
        go_wp2_with fail
        go_roundw
        case rel => exact ⟨k + 1, by omega, by go_num, by rw [HS.out, HKB.out]; simpa using HI6.out⟩
        case measure => simp [intOf]; omega
    · have : k = bs.length := by omega
      subst this
      rw [List.take_length] at HI
      have HF : Hid (bondsOf m' = bs.filter (keepB (h1, h2))) := HBG.out
      rw [← HF.out] at HI
      have HI5 : Hid (In (fun _ => False) w [FamA p m', Box hb 36 (ints [h1, h2]), RowB u7 (bondsOf m')] wr) := (HI.out.swap.drop.third.perm ((List.Perm.swap _ _ _).cons _))
      obtain ⟨fb, hfs⟩ := HI5.out.seeFam
      have q1 : row? wr hb 0 2 = some (ints [h1, h2]) := HI5.out.swap.blk.row_all rfl
      clear HI HF HBG
      go_wp2_with fail
      refine (fparent_any (h1, h2) wr hfs).mono ?_
      rintro e w6 ⟨rfl, hb6⟩
      rw [HGN.out]
      have HI6 := Lib.hid (HI5.out.below hb6)
      clear hb6 hfs q1 HI5
      go_upto_region 16 with (fail)
      refine wp_abs (In (fun _ => False) w [FamA p m', Box hb 36 (ints [h1, h2]), RowB u7 (bondsOf m')]) (HI6.out.below (below_new_put w6 36 [0, 0] [0, 0])) ?_
      intro w7 hI7
      have q1 : row? w7 hb 0 2 = some (ints [h1, h2]) := hI7.swap.blk.row_all rfl
      have HI7 := Lib.hid hI7
      clear hI7 HI6
      go_wp2_with fail
      refine (fchildren_in HI7.out (h1, h2) hgl).mono ?_
      rintro e w8 ⟨kv, rfl, hI8⟩
      obtain ⟨kA, kc, rfl, _, _, _⟩ := rowH_at hI8.rowAt
      rw [HGK.out] at hI8 ⊢
      have HI8 := Lib.hid hI8.drop
      clear hI8 HI7 q1
      go_wp2_with fail
      refine (fbonds_in HI8.out hgl).mono ?_
      rintro e w9 ⟨cv, rfl, hI9⟩
      have HI9 : Hid (In (fun _ => False) w [RowB cv (bondsOf m'), RowB u7 (bondsOf m')] w9) := hI9.swap.drop.swap.drop
      clear hI9 HI8
      go_wp2_with fail
      refine (eqB_in HI9.out).mono ?_
      rintro e w10 ⟨rfl, hb10⟩
      have HI10 := Lib.hid (HI9.out.below hb10)
      clear hb10 HI9
      rw [decide_eq_true (rfl : bondsOf m' = bondsOf m')]
      go_wp2_with fail
      go_ret
      exact ⟨rfl, HI10.out.below0⟩

end Go.Proofs.Ytpgdobomcdpdbaa
