/-
  The walk of the law WorldBack.
-/
import Derived.Test.YtjggdpnamakoeaaWorldLoadP
import Derived.Test.YtjggdpnamakoeaaWorldRowsSP
namespace Go.Proofs.Ytjggdpnamakoeaa
open Go.RowKit

set_option maxHeartbeats 2000000 in
set_option maxRecDepth 100000 in
theorem worldBack_any (A : Option Addr) (c : Nat) (os : List OpM) (b : Beast) (w : World) (H : OpsIn w w.heap.size A os) (hlen : os.length ≤ 1099511627776) (hb8 : ∀ o ∈ os, o.b.v.length = 8) (h8 : b.v.length = 8) :
    Calls Try.prog 8 #[.slice A os.length c, .agg (ints b.list)] w fun e w' => e = .returned (.bool true) ∧ Below w.heap.size w w' := by
  have H := Lib.hid H
  have H8 := Lib.hid hb8
  clear hb8
  have hl9 : b.list.length = 9 := by simp [Beast.list, h8]
  go_enter Try.func8, Try.ntmps8
  go_upto_region 1 with (fail)
  refine wp_abs (In (fun _ => False) w [Box w.heap.size 35 (ints b.list)]) ((In.nil w _).alloc 35 (ints b.list)) ?_
  generalize w.heap.size = bb
  intro w1 hI
  have HI0 := Lib.hid hI
  clear hI
  go_wp2_with fail
  refine (lived_any w1).mono ?_
  rintro e w2 ⟨rfl, hb2⟩
  have HI1 := Lib.hid (HI0.out.below hb2)
  clear hb2 HI0
  go_wp2_with fail
  refine (made_in H.out hlen H8.out HI1.out).mono ?_
  rintro e w3 ⟨p, rfl, hI⟩
  have HOK : Hid (WOk (madeW os).1 (madeW os).2) := madeW_ok H8.out
  generalize madeW os = st at *
  obtain ⟨ls, f⟩ := st
  have hg60 : ls.length ≤ 60 := HOK.out.so.1
  obtain ⟨sp, hI⟩ := hI.worldS
  have HI2 := Lib.hid hI
  have q1 := hI.slotPtr
  have HG := Lib.hid (gensS_in hI hg60)
  clear hI HI1 H8 H hlen
  go_wp2_with fail
  refine HG.out.mono ?_
  rintro e w4 ⟨gA, gc, rfl, hI⟩
  have HI3 := Lib.hid hI.swap
  clear hI HG HI2 q1
  go_wp2_with fail
  refine (all_in HI3.out.worldOf HOK.out).mono ?_
  rintro e w5 ⟨rv, rfl, hI⟩
  have HI4 := Lib.hid (hI.third)
  have HLD := Lib.hid (wload_in HI4.out HOK.out)
  clear hI HI3
  go_wp2_with fail
  refine HLD.out.mono ?_
  rintro e w6 ⟨p2, rfl, hI⟩
  have HI5 : Hid (In (fun _ => False) w [WorldA p2 ls f, WorldA p ls f, Box bb 35 (ints b.list)] w6) := hI.swap.drop.swap.drop
  clear hI HLD HI4
  go_wp2_with fail
  refine (all_in HI5.out HOK.out).mono ?_
  rintro e w7 ⟨v1, rfl, hI⟩
  have HI6 := Lib.hid hI.third
  clear hI HI5
  go_wp2_with fail
  refine (all_in HI6.out HOK.out).mono ?_
  rintro e w8 ⟨v2, rfl, hI⟩
  have HEQ := Lib.hid (eqR_same hI.third hI rfl)
  have HI7 : Hid (In (fun _ => False) w [WorldA p ls f, WorldA p2 ls f, Box bb 35 (ints b.list)] w8) := hI.drop.swap.drop
  clear hI HI6
  go_wp2_with fail
  refine HEQ.out.mono ?_
  rintro e w9 ⟨rfl, hb9⟩
  have HI8 := Lib.hid (HI7.out.below hb9)
  have q2 : row? w9 bb 0 9 = some (ints b.list) := HI8.out.third.blk.row_all hl9
  clear hb9 HEQ HI7
  go_wp2_with fail
  refine (spawn_in HI8.out HOK.out b h8).mono ?_
  rintro e w10 ⟨rfl, hI⟩
  have HOK2 := Lib.hid (HOK.out.spawn (b := b) h8)
  have hsp := fun {G w0 l p w} (h : In G w0 (WorldA p ls f :: l) w) => spawn_in h HOK.out b h8
  obtain ⟨sr, hsr⟩ : ∃ sr, spawnW ls f b = sr := ⟨_, rfl⟩
  rw [hsr] at HOK2 hI
  rw [hsr]
  have HSR := Lib.hid hsr
  clear hsr hsp
  obtain ⟨⟨ls2, f2⟩, ⟨h1, h2⟩, e2⟩ := sr
  simp only at hI HOK2 ⊢
  have HI9 := Lib.hid hI.swap
  clear hI HI8 q2
  go_upto_region 10 with (fail)
  refine wp_abs (In (fun _ => False) w [Box w10.heap.size 24 (ints [h1, h2]), WorldA p2 ls f, WorldA p ls2 f2, Box bb 35 (ints b.list)]) (HI9.out.struct 24 [0, 0] [h1, h2] rfl) ?_
  generalize w10.heap.size = h1b
  intro w11 hI11
  have q3 : row? w11 bb 0 9 = some (ints b.list) := hI11.fourth.blk.row_all hl9
  have HI11 := Lib.hid hI11.swap
  clear hI11 HI9
  go_wp2_with fail
  refine (spawn_in HI11.out HOK.out b h8).mono ?_
  rintro e w12 ⟨rfl, hI⟩
  rw [HSR.out] at hI ⊢
  simp only at hI ⊢
  have HI12 := Lib.hid hI
  clear hI HI11 q3 HSR
  go_upto_region 11 with (fail)
  refine wp_abs (In (fun _ => False) w [Box w12.heap.size 24 (ints [h1, h2]), WorldA p2 ls2 f2, Box h1b 24 (ints [h1, h2]), WorldA p ls2 f2]) (by
    have h1 := HI12.out.struct 24 [0, 0] [h1, h2] rfl
    have h2 := h1.reorder 5 [4, 0, 1, 2, 3] rfl (by simp)
    exact h2.drop) ?_
  generalize w12.heap.size = h2b
  intro w13 hI13
  obtain ⟨sp2, hI14⟩ := hI13.swap.worldS
  obtain ⟨sp1, hI15⟩ := (hI14.fourth).worldS
  have hl60 : ls2.length ≤ 60 := HOK2.out.so.1
  have hlm : ls2.length ≤ maxLen := by unfold maxLen; omega
  have HI15 : Hid (In (fun _ => False) w [WorldS p2 sp2 ls2 f2, WorldS p sp1 ls2 f2, Box h1b 24 (ints [h1, h2]), Box h2b 24 (ints [h1, h2])] w13) := hI15.reorder 4 [1, 0, 3, 2] rfl (by simp)
  have HFS : Hid (∀ (W : World) (l : List Assn), In (fun _ => False) w (WorldS p2 sp2 ls2 f2 :: WorldS p sp1 ls2 f2 :: Box h1b 24 (ints [h1, h2]) :: Box h2b 24 (ints [h1, h2]) :: l) W →
      row? W h1b 0 2 = some (ints [h1, h2]) ∧ row? W h2b 0 2 = some (ints [h1, h2]) ∧ W.cell? ⟨p2, 0, none⟩ = some (.pointer (some ⟨sp2, 0, none⟩)) ∧ W.cell? ⟨p, 0, none⟩ = some (.pointer (some ⟨sp1, 0, none⟩))) := fun W l hW =>
    ⟨hW.third.blk.row_all rfl, hW.fourth.blk.row_all rfl, hW.slotPtr, hW.swap.slotPtr⟩
  obtain ⟨r1, r2, r3, r4⟩ := HFS.out _ _ HI15.out
  have heq : ∀ W, (binOp .eql 24 (.agg (ints [h1, h2])) (.agg (ints [h1, h2]))).run Try.prog W = .ok (.bool true) W := fun W => by rw [eql_handle _ _ rfl rfl W]; simp
  clear hI13 hI14 hI15 HI12
  go_region_held3 (fun W => row? W h1b 0 2 = some (ints [h1, h2]) ∧ row? W h2b 0 2 = some (ints [h1, h2]) ∧ W.cell? ⟨p2, 0, none⟩ = some (.pointer (some ⟨sp2, 0, none⟩)) ∧ W.cell? ⟨p, 0, none⟩ = some (.pointer (some ⟨sp1, 0, none⟩))) (refine ⟨?_, ?_, ?_, ?_⟩ <;> assumption)
    (first
      | (go_at_call 25; refine (eqG_in hlm H8.out.third H8.out).mono ?_; rintro e w' ⟨rfl, rfl⟩; have HB := Lib.hid H8.out.below0)
      | (go_at_call 23; refine (gensS_in H7.out.third hl60).mono ?_; rintro e w' ⟨A8, c8, rfl, hI8⟩; have H8 := Lib.hid hI8; obtain ⟨s1, s2, s3, s4⟩ := HFS.out _ _ (hI8.reorder 6 [3, 1, 4, 5, 0, 2] rfl (by simp)); clear hI8)
      | (go_at_call 23; refine (gensS_in H6.out hl60).mono ?_; rintro e w' ⟨A7, c7, rfl, hI7⟩; have H7 := Lib.hid hI7; obtain ⟨s1, s2, s3, s4⟩ := HFS.out _ _ hI7.drop; clear hI7)
      | (go_at_call 13; refine (eqR_same H5.out.third H5.out rfl).mono ?_; rintro e w' ⟨rfl, hb6⟩; have H6 := Lib.hid ((H5.out.below hb6).reorder 6 [3, 1, 4, 5, 0, 2] rfl (by simp)); obtain ⟨s1, s2, s3, s4⟩ := HFS.out _ _ H6.out; clear hb6)
      | (go_at_call 11; refine (allS_in H4.out.third HOK2.out).mono ?_; rintro e w' ⟨v5, rfl, hI5⟩; have H5 := Lib.hid hI5; obtain ⟨s1, s2, s3, s4⟩ := HFS.out _ _ (hI5.reorder 6 [3, 1, 4, 5, 0, 2] rfl (by simp)); clear hI5)
      | (go_at_call 11; refine (allS_in HI15.out.drew HOK2.out).mono ?_; rintro e w' ⟨v4, rfl, hI4⟩; have H4 := Lib.hid hI4; obtain ⟨s1, s2, s3, s4⟩ := HFS.out _ _ hI4.drop; clear hI4))
  all_goals
    go_wp2_with fail
    go_ret
    exact ⟨rfl, HB.out⟩

end Go.Proofs.Ytjggdpnamakoeaa
