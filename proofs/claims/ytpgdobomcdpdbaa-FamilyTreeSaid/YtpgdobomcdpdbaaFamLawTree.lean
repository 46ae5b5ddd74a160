/-
  The walk of the law FamilyTree.
-/
import Derived.Test.YtpgdobomcdpdbaaFamLawAdopts
namespace Go.Proofs.Ytpgdobomcdpdbaa
open Go.RowKit

/-- what is read when one goes up: the next one above, or none -/
def upAt (xs : List Hd) (j : Nat) : Hd := (xs[j]?).getD (0, 0)
theorem chain_parent {m : Fam} {h : Hd} {xs : List Hd} (hc : Chain m h xs) : parentR m h = (upAt xs 0, decide (0 < xs.length)) := by
  unfold parentR upAt
  rw [hc.get]
  cases xs <;> rfl
theorem chain_next {m : Fam} {h : Hd} {xs : List Hd} (hc : Chain m h xs) {j : Nat} (hj : j < xs.length) : parentR m (upAt xs j) = (upAt xs (j + 1), decide (j + 1 < xs.length)) := by
  have h1 := hc.at_ (j + 1) (by omega)
  have e : (h :: xs).getD (j + 1) h = upAt xs j := by
    unfold upAt
    simp only [List.getD_eq_getElem?_getD, List.getElem?_cons_succ, List.getElem?_eq_getElem hj, Option.getD_some]
  rw [e] at h1
  rw [chain_parent h1]
  unfold upAt
  rw [List.getElem?_drop, List.length_drop]
  congr 1
  rw [Bool.eq_iff_iff, decide_eq_true_eq, decide_eq_true_eq]; omega
theorem chain_under {m : Fam} (hm : FamOk m) {h : Hd} {xs : List Hd} (hc : Chain m h xs) {j : Nat} (hj : j < xs.length) : h ∈ under m (upAt xs j) := by
  rw [mem_under hm.nodup hm.acyc, ← hc.mem]
  unfold upAt
  rw [List.getElem?_eq_getElem hj]
  exact List.getElem_mem hj

set_option maxHeartbeats 16000000 in
set_option maxRecDepth 100000 in
theorem familyTree_any (A : Option Addr) (n : Nat) (os : List OpM) (w : World) (H : OpsIn w w.heap.size A os) (hlen : os.length ≤ 1099511627744) (hb8 : ∀ o ∈ os, o.b.v.length = 8) :
    Calls Try.prog 8 #[.slice A os.length n] w fun e w' => e = .returned (.bool true) ∧ Below w.heap.size w w' := by
  have H := Lib.hid H
  have H8 := Lib.hid hb8
  clear hb8
  have HNEQ : Hid (∀ (a b c d : Int) W, (binOp .neq 36 (.agg (ints [a, b])) (.agg (ints [c, d]))).run Try.prog W = .ok (.bool (!decide ((a, b) = (c, d)))) W) := fun a b c d W => by rw [neq_handle _ _ rfl rfl W, dec_list2]
  go_enter Try.func8, Try.ntmps8
  go_wp2_with fail
  refine (related_any w).mono ?_
  rintro e w2 ⟨rfl, hb2⟩
  have HI1 : Hid (In (fun _ => False) w [] w2) := (In.nil w _).below hb2
  clear hb2
  go_wp2_with fail
  refine (grown_in H.out (by omega) H8.out HI1.out).mono ?_
  rintro e w3 ⟨p, rfl, hI⟩
  have hml0 : (growsR os).length ≤ 1099511627744 := Nat.le_trans (growsR_len os) hlen
  have HOK := Lib.hid (growsR_ok os)
  generalize growsR os = m at *
  have hml : m.length ≤ 1099511627776 := by omega
  have HML := Lib.hid hml
  have HI2 := Lib.hid hI
  clear hI HI1 H H8 hlen hml
  go_wp2_with fail
  refine (fbonds_in HI2.out HML.out).mono ?_
  rintro e w4 ⟨bv, rfl, hI⟩
  obtain ⟨bA, bc, rfl, _, hbc, _⟩ := rowB_at hI.rowAt
  have hbl : (bondsOf m).length ≤ 1099511627744 := by rw [bonds_len]; omega
  have HBM : Hid (∀ b ∈ bondsOf m, mget m b.1 = some b.2) := fun b hb => (mem_bonds HOK.out.nodup).1 hb
  have HBL : Hid ((bondsOf m).length = m.length) := bonds_len m
  have HI3 : Hid (In (fun _ => False) w [FamA p m, RowB (.slice bA (bondsOf m).length bc) (bondsOf m)] w4) := hI.swap
  clear hI HI2 hml0
  generalize hbs : bondsOf m = bs at *
  have HBS := Lib.hid hbs
  clear hbs
  go_wp2_with fail
  go_loopw [18] (fun i w' => ∃ k : Nat, k ≤ bs.length ∧ i = .int .i64 k ∧ In (fun _ => False) w [FamA p m, RowB (.slice bA bs.length bc) bs] w') (fun i _ => bs.length - (intOf i).toNat)
  case atStart => exact ⟨0, Nat.zero_le _, rfl, HI3.out⟩
  case round =>
    clear HI3
    obtain ⟨k, hk, rfl, hI⟩ := hrel
    have HI := Lib.hid hI
    clear hI
    by_cases hlt : k < bs.length
    · have hki : (k : Int) < bs.length := by omega
      obtain ⟨A', c', e0, _, hkc, hrow⟩ := rowB_at HI.out.swap.rowAt
      injection e0 with e1 e2 e3
      subst e1; subst e3
      obtain ⟨g, rfl, r1⟩ := hrow k hlt
      have hkc' : (bs.length : Int) ≤ bc := by omega
      have HMG := Lib.hid (HBM.out _ (List.getElem_mem hlt))
      clear hrow e2
      generalize bs[k] = x at *
      obtain ⟨⟨x1, x2⟩, ⟨y1, y2⟩⟩ := x
      have hmg : mget m (x1, x2) = some (y1, y2) := HMG.out
      have HPR : Hid (parentR m (x1, x2) = ((y1, y2), true)) := by unfold Hid parentR; rw [hmg]; rfl
      have HC1 : Hid (decide ((x1, x2) ∈ kids m (y1, y2)) = true) := by unfold Hid; rw [decide_eq_true_eq]; exact (mem_kids HOK.out.nodup).2 hmg
      have HC2 : Hid (decide ((x1, x2) ∈ under m (x1, x2)) = false) := by unfold Hid; rw [decide_eq_false_iff_not, mem_under HOK.out.nodup HOK.out.acyc]; exact Up.irrefl HOK.out.acyc
      have HC3 : Hid (decide ((y1, y2) ∈ under m (x1, x2)) = false) := by
        unfold Hid; rw [decide_eq_false_iff_not, mem_under HOK.out.nodup HOK.out.acyc]
        exact fun h => Up.irrefl HOK.out.acyc ((Up.one hmg).trans h)
      obtain ⟨xs, hc⟩ := Chain.exists HOK.out.acyc (x1, x2)
      have HCH := Lib.hid hc
      have hxl : xs.length ≤ m.length := hc.le HOK.out.acyc
      have hx0 : xs[0]? = some (y1, y2) := by cases hc with | nil e => rw [e] at hmg; cases hmg | cons e _ => rw [e] at hmg; cases Option.some.inj hmg; rfl
      have HX0 := Lib.hid hx0
      clear hmg hc hx0
      go_upto_region 9 with (fail)
      refine wp_abs (In (fun _ => False) w [FamA p m, Box wr.heap.size 59 (ints [x1, x2, y1, y2]), RowB (.slice (some ⟨g, 0, none⟩) bs.length bc) bs]) ((HI.out.struct 59 [0, 0, 0, 0] [x1, x2, y1, y2] rfl).swap) ?_
      generalize wr.heap.size = xb
      intro w6 hI6
      obtain ⟨fb, hfs⟩ := hI6.seeFam
      have s1 : row? w6 xb 0 2 = some (ints [x1, x2]) := hI6.swap.blk.row_ints 0 2 (by simp)
      have HI6 := Lib.hid hI6
      clear hI6 r1 HI
      go_wp2_with fail
      refine (fparent_any (x1, x2) w6 hfs).mono ?_
      rintro e w7 ⟨rfl, hb7⟩
      rw [HPR.out]
      have HI7 := Lib.hid (HI6.out.below hb7)
      clear hb7 hfs s1 HI6
      go_upto_region 10 with (fail)
      refine wp_abs (In (fun _ => False) w [FamA p m, Box w7.heap.size 36 (ints [y1, y2]), Box xb 59 (ints [x1, x2, y1, y2]), RowB (.slice (some ⟨g, 0, none⟩) bs.length bc) bs]) ((HI7.out.struct 36 [0, 0] [y1, y2] rfl).swap) ?_
      generalize w7.heap.size = pb
      intro w8 hI8
      have s1 : row? w8 xb 0 2 = some (ints [x1, x2]) := hI8.third.blk.row_ints 0 2 (by simp)
      have s2 : row? w8 xb 2 2 = some (ints [y1, y2]) := hI8.third.blk.row_ints 2 2 (by simp)
      have s3 : row? w8 pb 0 2 = some (ints [y1, y2]) := hI8.swap.blk.row_all rfl
      have hn1 : ∀ W, (binOp .neq 36 (.agg (ints [y1, y2])) (.agg (ints [y1, y2]))).run Try.prog W = .ok (.bool false) W := fun W => by rw [HNEQ.out]; simp
      have HI8 := Lib.hid hI8
      clear hI8 HI7
      go_region_held3 (fun W => row? W xb 0 2 = some (ints [x1, x2]) ∧ row? W xb 2 2 = some (ints [y1, y2]) ∧ row? W pb 0 2 = some (ints [y1, y2])) (refine ⟨?_, ?_, ?_⟩ <;> assumption)
        (first
          | (go_at_call 27; refine (hasH_in H5.out (y1, y2)).mono ?_; rintro e w6 ⟨rfl, hb6⟩; rw [HC3.out]; have s1' := row_after hb6 s1; have s2' := row_after hb6 s2; have s3' := row_after hb6 s3; have H6 := Lib.hid (H5.out.below hb6).drop; clear hb6)
          | (go_at_call 25; refine (funder_in H4.out HML.out (x1, x2)).mono ?_; rintro e w5 ⟨uv, rfl, hI5⟩; have s1 : row? w5 xb 0 2 = some (ints [x1, x2]) := hI5.fourth.blk.row_ints 0 2 (by simp); have s2 : row? w5 xb 2 2 = some (ints [y1, y2]) := hI5.fourth.blk.row_ints 2 2 (by simp); have s3 : row? w5 pb 0 2 = some (ints [y1, y2]) := hI5.third.blk.row_all rfl; have H5 := Lib.hid hI5; clear hI5)
          | (go_at_call 27; refine (hasH_in H3.out (x1, x2)).mono ?_; rintro e w6 ⟨rfl, hb6⟩; rw [HC2.out]; have s1' := row_after hb6 s1; have s2' := row_after hb6 s2; have s3' := row_after hb6 s3; have H4 := Lib.hid (H3.out.below hb6).drop; clear hb6)
          | (go_at_call 25; refine (funder_in H2.out HML.out (x1, x2)).mono ?_; rintro e w5 ⟨uv, rfl, hI5⟩; have s1 : row? w5 xb 0 2 = some (ints [x1, x2]) := hI5.fourth.blk.row_ints 0 2 (by simp); have s2 : row? w5 xb 2 2 = some (ints [y1, y2]) := hI5.fourth.blk.row_ints 2 2 (by simp); have s3 : row? w5 pb 0 2 = some (ints [y1, y2]) := hI5.third.blk.row_all rfl; have H3 := Lib.hid hI5; clear hI5)
          | (go_at_call 27; refine (hasH_in H1.out (x1, x2)).mono ?_; rintro e w6 ⟨rfl, hb6⟩; rw [HC1.out]; have s1' := row_after hb6 s1; have s2' := row_after hb6 s2; have s3' := row_after hb6 s3; have H2 := Lib.hid (H1.out.below hb6).drop; clear hb6)
          | (go_at_call 26; refine (fchildren_in HI8.out.drew (y1, y2) HML.out).mono ?_; rintro e w5 ⟨uv, rfl, hI5⟩; have s1 : row? w5 xb 0 2 = some (ints [x1, x2]) := hI5.fourth.blk.row_ints 0 2 (by simp); have s2 : row? w5 xb 2 2 = some (ints [y1, y2]) := hI5.fourth.blk.row_ints 2 2 (by simp); have s3 : row? w5 pb 0 2 = some (ints [y1, y2]) := hI5.third.blk.row_all rfl; have H1 := Lib.hid hI5; clear hI5))
      go_upto_region 12 with (fail)
      refine wp_abs (In (fun _ => False) w [FamA p m, Box pb 36 (ints [y1, y2]), Box xb 59 (ints [x1, x2, y1, y2]), RowB (.slice (some ⟨g, 0, none⟩) bs.length bc) bs]) H6.out ?_
      intro w9 hI9
      have s1 : row? w9 xb 0 2 = some (ints [x1, x2]) := hI9.third.blk.row_ints 0 2 (by simp)
      have HI9 := Lib.hid hI9
      clear hI9 H1 H2 H3 H4 H5 H6 HI8 hn1
      go_upto_region 13 with (fail)
      refine wp_abs (In (fun _ => False) w [FamA p m, Box w9.heap.size 36 (ints [x1, x2]), Box pb 36 (ints [y1, y2]), Box xb 59 (ints [x1, x2, y1, y2]), RowB (.slice (some ⟨g, 0, none⟩) bs.length bc) bs]) ((HI9.out.struct 36 [0, 0] [x1, x2] rfl).swap) ?_
      generalize w9.heap.size = hb
      intro w10 hI10
      have HI10 := Lib.hid hI10
      clear hI10 HI9 s1
      go_wp2_with fail
      refine (fbonds_in HI10.out HML.out).mono ?_
      rintro e w11 ⟨cv, rfl, hI11⟩
      obtain ⟨cA, cc, rfl, _, _, _⟩ := rowB_at hI11.rowAt
      have HI11 := Lib.hid hI11.drop
      rw [HBS.out]
      have hxb : xs.length ≤ bs.length := by have := HBL.out; omega
      have hxpos : 0 < xs.length := (List.getElem?_eq_some_iff.1 HX0.out).1
      have HU0 : Hid (upAt xs 0 = (y1, y2)) := by unfold Hid upAt; rw [HX0.out]; rfl
      clear hI11 HI10
      go_wp2_with fail
      go_loopw [7, 71] (fun is i w' => ∃ (j : Nat) (q : Hd), j ≤ xs.length ∧ i = .int .i64 j ∧ is = .bool (decide (j < xs.length)) ∧ In (fun _ => False) w [FamA p m, Box hb 36 (ints (hL q)), Box pb 36 (ints (hL (upAt xs j))), Box xb 59 (ints [x1, x2, y1, y2]), RowB (.slice (some ⟨g, 0, none⟩) bs.length bc) bs] w') (fun _ i _ => xs.length + 1 - (intOf i).toNat)
      case atStart => exact ⟨0, (x1, x2), Nat.zero_le _, rfl, by rw [decide_eq_true hxpos], by rw [HU0.out]; exact HI11.out⟩
      case round =>
        clear HI11
        obtain ⟨j, ⟨z1, z2⟩, hj, rfl, rfl, hI⟩ := hrel
        have HI := Lib.hid hI
        clear hI
        by_cases hjx : j < xs.length
        · have HND := Lib.hid (chain_next HCH.out hjx)
          have HUN : Hid (decide ((x1, x2) ∈ under m (upAt xs j)) = true) := by unfold Hid; rw [decide_eq_true_eq]; exact chain_under HOK.out HCH.out hjx
          generalize hu : upAt xs j = u at *
          obtain ⟨u1, u2⟩ := u
          have s1 : row? wr xb 0 2 = some (ints [x1, x2]) := HI.out.fourth.blk.row_ints 0 2 (by simp)
          have s2 : row? wr pb 0 2 = some (ints [u1, u2]) := HI.out.third.blk.row_all rfl
          rw [decide_eq_true hjx]
          have hjb : (j : Int) < bs.length + 1 := by omega
          clear hu
          go_wp2_with fail
          go_region_held3 (fun W => row? W xb 0 2 = some (ints [x1, x2]) ∧ row? W pb 0 2 = some (ints [u1, u2])) (refine ⟨?_, ?_⟩ <;> assumption)
            (first
              | (go_at_call 27; refine (hasH_in J1.out (x1, x2)).mono ?_; rintro e w6 ⟨rfl, hb6⟩; rw [HUN.out]; have s1' := row_after hb6 s1; have s2' := row_after hb6 s2; have J2 := Lib.hid (J1.out.below hb6).drop; clear hb6)
              | (go_at_call 25; refine (funder_in HI.out.drew HML.out (u1, u2)).mono ?_; rintro e w5 ⟨uv, rfl, hI5⟩; have s1 : row? w5 xb 0 2 = some (ints [x1, x2]) := hI5.fifth.blk.row_ints 0 2 (by simp); have s2 : row? w5 pb 0 2 = some (ints [u1, u2]) := hI5.fourth.blk.row_all rfl; have J1 := Lib.hid hI5; clear hI5))
          go_upto_region 18 with (fail)
          refine wp_abs (In (fun _ => False) w [FamA p m, Box hb 36 (ints [z1, z2]), Box pb 36 (ints [u1, u2]), Box xb 59 (ints [x1, x2, y1, y2]), RowB (.slice (some ⟨g, 0, none⟩) bs.length bc) bs]) J2.out ?_
          intro w12 hI12
          have s2 : row? w12 pb 0 2 = some (ints [u1, u2]) := hI12.third.blk.row_all rfl
          have f1 : fits w12 hb 0 2 = true := hI12.swap.blk.fits 0 2 (by rw [ints_size]; simp)
          have HI12 := Lib.hid (hI12.swap.put_all [u1, u2] rfl)
          clear hI12 J1 J2 HI
          go_upto_region 19 with (fail)
          refine wp_abs (In (fun _ => False) w [Box hb 36 (ints [u1, u2]), FamA p m, Box pb 36 (ints [u1, u2]), Box xb 59 (ints [x1, x2, y1, y2]), RowB (.slice (some ⟨g, 0, none⟩) bs.length bc) bs]) HI12.out ?_
          intro w13 hI13
          obtain ⟨fb, hfs⟩ := hI13.swap.seeFam
          have s3 : row? w13 hb 0 2 = some (ints [u1, u2]) := hI13.blk.row_all rfl
          have HI13 := Lib.hid hI13
          clear hI13 HI12 f1 s2
          go_wp2_with fail
          refine (fparent_any (u1, u2) w13 hfs).mono ?_
          rintro e w14 ⟨rfl, hb14⟩
          rw [HND.out]
          have hI14 := HI13.out.below hb14
          have f2 : fits w14 pb 0 2 = true := hI14.third.blk.fits 0 2 (by rw [ints_size]; simp)
          have HI14 := Lib.hid hI14.third
          clear hI14 hb14 hfs s3 HI13
          have HUP : Hid (∀ (u : Hd), u = upAt xs (j + 1) → In (fun _ => False) w [FamA p m, Box hb 36 (ints (hL (u1, u2))), Box pb 36 (ints (hL (upAt xs (j + 1)))), Box xb 59 (ints [x1, x2, y1, y2]), RowB (.slice (some ⟨g, 0, none⟩) bs.length bc) bs] (putRow w14 pb 0 (hL u))) := fun u e => by
            rw [← e]
            exact ((HI14.out.put_all (hL u) rfl).third).perm ((List.Perm.swap _ _ _).cons _)
          generalize hv : upAt xs (j + 1) = v at *
          have HV := Lib.hid hv
          clear hv
          obtain ⟨v1, v2⟩ := v
          go_wp2_with fail
          go_roundw
          case rel => exact ⟨j + 1, (u1, u2), by omega, by go_num, rfl, by rw [HV.out]; exact HUP.out _ rfl⟩
          case measure => simp [intOf]; omega
        · have hjx2 : j = xs.length := by omega
          rw [decide_eq_false hjx]
          have HI15 : Hid (In (fun _ => False) w [FamA p m, RowB (.slice (some ⟨g, 0, none⟩) bs.length bc) bs] wr) := HI.out.swap.drop.swap.drop.swap.drop
          have hjb : (j : Int) < bs.length + 1 := by omega
          clear HI hjx2
          go_wp2_with fail
          go_roundw
          case rel => exact ⟨k + 1, by omega, by go_num, HI15.out⟩
          case measure => simp [intOf]; omega
    · have : k = bs.length := by omega
      subst this
      go_wp2_with fail
      go_ret
      exact ⟨rfl, HI.out.below0⟩

end Go.Proofs.Ytpgdobomcdpdbaa
