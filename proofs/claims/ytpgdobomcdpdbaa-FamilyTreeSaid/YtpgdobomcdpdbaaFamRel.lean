/-
  The closed fact 'related'.
-/
import Derived.Test.YtpgdobomcdpdbaaFamUse
namespace Go.Proofs.Ytpgdobomcdpdbaa
open Go.RowKit

set_option maxHeartbeats 8000000 in
set_option maxRecDepth 100000 in
theorem related_any (w : World) : Calls Try.prog 23 #[] w fun e w' => e = .returned (.bool true) ∧ Below w.heap.size w w' := by
  have HM2 : Hid (FamOk rm2) := by
    have := (((FamOk.nil).adopt (2, 0) (1, 0)))
    rw [rel1] at this
    have := this.adopt (3, 0) (2, 0)
    rw [rel2] at this
    exact this
  go_enter Try.func23, Try.ntmps23
  go_wp2_with fail
  refine (fnew_in (In.nil w (fun _ => False))).mono ?_
  rintro e w1 ⟨p, rfl, hI⟩
  have HI1 := Lib.hid hI
  clear hI
  go_upto_region 4 with (fail)
  obtain ⟨f1, f2, f3⟩ := three_fits w1 36 36 36 [0, 0] [0, 0] [0, 0] [1, 0] [2, 0]
  go_upto_region 5 with (fail)
  refine wp_abs (In (fun _ => False) w (FamA p [] :: Box (w1.heap.size + 1 + 1) 36 (ints [3, 0]) :: Box (w1.heap.size + 1) 36 (ints [2, 0]) :: Box w1.heap.size 36 (ints [1, 0]) :: [])) (HI1.out.struct3 36 36 36 [0, 0] [0, 0] [0, 0] [1, 0] [2, 0] [3, 0] rfl rfl rfl).fourth ?_
  clear f1 f2 f3
  generalize w1.heap.size + 1 + 1 = cb
  generalize w1.heap.size + 1 = bb
  generalize w1.heap.size = ab
  intro w2 hI2
  have s1 : row? w2 ab 0 2 = some #[.int .i64 1, .int .i64 0] := hI2.fourth.blk.row_all (xs := [1, 0]) rfl
  have s2 : row? w2 bb 0 2 = some #[.int .i64 2, .int .i64 0] := hI2.third.blk.row_all (xs := [2, 0]) rfl
  have s3 : row? w2 cb 0 2 = some #[.int .i64 3, .int .i64 0] := hI2.swap.blk.row_all (xs := [3, 0]) rfl
  have HI2 := Lib.hid hI2
  clear hI2 HI1
  go_region_held3 (fun W => row? W ab 0 2 = some #[.int .i64 1, .int .i64 0] ∧ row? W bb 0 2 = some #[.int .i64 2, .int .i64 0] ∧ row? W cb 0 2 = some #[.int .i64 3, .int .i64 0]) (refine ⟨?_, ?_, ?_⟩ <;> (first | assumption | (refine row_alloc _ ?_; assumption)))
    (first
      | (go_at_call 53; refine (eqH_in (bs := [(2, 0), (3, 0)]) (cs := [(2, 0), (3, 0)]) H5b.out.third.swap).mono ?_; rintro e w6 ⟨rfl, hb6⟩; have s1' := row_after hb6 s1; have s2' := row_after hb6 s2; have s3' := row_after hb6 s3; have H6 : Hid (Below w.heap.size w w6) := H5b.out.below0.trans (hb6.mono H5b.out.below0.size); clear hb6)
      | (go_at_call 53; refine (eqH_in (bs := [(2, 0), (3, 0)]) (cs := [(2, 0), (3, 0)]) (H5.out.newLit 36 2 2 [.int .i64 2, .int .i64 0, .int .i64 3, .int .i64 0] rfl (by decide)).swap).mono ?_; rintro e w6 ⟨rfl, hb6⟩; have s1' := row_after hb6 (row_alloc (.cells [.int .i64 2, .int .i64 0, .int .i64 3, .int .i64 0].toArray 36) s1); have s2' := row_after hb6 (row_alloc (.cells [.int .i64 2, .int .i64 0, .int .i64 3, .int .i64 0].toArray 36) s2); have s3' := row_after hb6 (row_alloc (.cells [.int .i64 2, .int .i64 0, .int .i64 3, .int .i64 0].toArray 36) s3); have H6 : Hid (Below w.heap.size w w6) := (H5.out.newLit 36 2 2 [.int .i64 2, .int .i64 0, .int .i64 3, .int .i64 0] rfl (by decide)).below0.trans (hb6.mono (H5.out.newLit 36 2 2 [.int .i64 2, .int .i64 0, .int .i64 3, .int .i64 0] rfl (by decide)).below0.size); clear hb6)
      | (go_at_call 25; refine (funder_in (H3.out.newLit 36 2 2 [.int .i64 2, .int .i64 0, .int .i64 3, .int .i64 0] rfl (by decide)).swap (by decide) (1, 0)).mono ?_; rintro e w5 ⟨uv, rfl, hI5⟩; rw [rel4 HM2.out] at hI5; have s1 : row? w5 ab 0 2 = some #[.int .i64 1, .int .i64 0] := hI5.drop.drop.drop.third.blk.row_all (xs := [1, 0]) rfl; have s2 : row? w5 bb 0 2 = some #[.int .i64 2, .int .i64 0] := hI5.drop.drop.drop.swap.blk.row_all (xs := [2, 0]) rfl; have s3 : row? w5 cb 0 2 = some #[.int .i64 3, .int .i64 0] := hI5.drop.drop.drop.blk.row_all (xs := [3, 0]) rfl; have H5b := Lib.hid hI5; clear hI5)
      | (go_at_call 25; refine (funder_in H3.out (by decide) (1, 0)).mono ?_; rintro e w5 ⟨uv, rfl, hI5⟩; rw [rel4 HM2.out] at hI5; have s1 : row? w5 ab 0 2 = some #[.int .i64 1, .int .i64 0] := hI5.drop.drop.third.blk.row_all (xs := [1, 0]) rfl; have s2 : row? w5 bb 0 2 = some #[.int .i64 2, .int .i64 0] := hI5.drop.drop.swap.blk.row_all (xs := [2, 0]) rfl; have s3 : row? w5 cb 0 2 = some #[.int .i64 3, .int .i64 0] := hI5.drop.drop.blk.row_all (xs := [3, 0]) rfl; have H5 := Lib.hid hI5; clear hI5)
      | (go_at_call 29; refine (fadopt_in H2.out (1, 0) (3, 0)).mono ?_; rintro e w4 ⟨rfl, hI4⟩; rw [rel3] at hI4; rw [rel3]; have s1 : row? w4 ab 0 2 = some #[.int .i64 1, .int .i64 0] := hI4.fourth.blk.row_all (xs := [1, 0]) rfl; have s2 : row? w4 bb 0 2 = some #[.int .i64 2, .int .i64 0] := hI4.third.blk.row_all (xs := [2, 0]) rfl; have s3 : row? w4 cb 0 2 = some #[.int .i64 3, .int .i64 0] := hI4.swap.blk.row_all (xs := [3, 0]) rfl; have H3 := Lib.hid hI4; clear hI4)
      | (go_at_call 29; refine (fadopt_in H1.out (3, 0) (2, 0)).mono ?_; rintro e w4 ⟨rfl, hI4⟩; rw [rel2] at hI4; rw [rel2]; have s1 : row? w4 ab 0 2 = some #[.int .i64 1, .int .i64 0] := hI4.fourth.blk.row_all (xs := [1, 0]) rfl; have s2 : row? w4 bb 0 2 = some #[.int .i64 2, .int .i64 0] := hI4.third.blk.row_all (xs := [2, 0]) rfl; have s3 : row? w4 cb 0 2 = some #[.int .i64 3, .int .i64 0] := hI4.swap.blk.row_all (xs := [3, 0]) rfl; have H2 := Lib.hid hI4; clear hI4)
      | (go_at_call 29; refine (fadopt_in HI2.out.drew (2, 0) (1, 0)).mono ?_; rintro e w4 ⟨rfl, hI4⟩; rw [rel1] at hI4; rw [rel1]; have s1 : row? w4 ab 0 2 = some #[.int .i64 1, .int .i64 0] := hI4.fourth.blk.row_all (xs := [1, 0]) rfl; have s2 : row? w4 bb 0 2 = some #[.int .i64 2, .int .i64 0] := hI4.third.blk.row_all (xs := [2, 0]) rfl; have s3 : row? w4 cb 0 2 = some #[.int .i64 3, .int .i64 0] := hI4.swap.blk.row_all (xs := [3, 0]) rfl; have H1 := Lib.hid hI4; clear hI4))
  all_goals
    go_wp2_with fail
    go_ret
    exact ⟨ret_bool (by decide), H6.out⟩

end Go.Proofs.Ytpgdobomcdpdbaa
