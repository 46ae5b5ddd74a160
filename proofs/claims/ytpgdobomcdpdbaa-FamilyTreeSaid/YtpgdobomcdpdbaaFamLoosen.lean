/-
  The contract of family.Loosen.
-/
import Derived.Test.YtpgdobomcdpdbaaFamOps
namespace Go.Proofs.Ytpgdobomcdpdbaa
open Go.RowKit

set_option maxRecDepth 100000 in
theorem floosen_in {G : Nat → Prop} {w0 w : World} {l : List Assn} {p : Nat} {m : Fam} (h : In G w0 (FamA p m :: l) w) (c : Hd) :
    Calls Try.prog 32 #[.pointer (some ⟨p, 0, none⟩), hdV c] w fun e w' => e = .returned (.int .i64 (loosenR m c).2) ∧ In G w0 (FamA p (loosenR m c).1 :: l) w' := by
  obtain ⟨hm, b, hI⟩ := h.openFam
  have HM := Lib.hid hm
  have HI0 := Lib.hid hI
  clear h hm hI
  obtain ⟨c1, c2⟩ := c
  rw [hdV_eq]
  go_enter Try.func32, Try.ntmps32
  go_upto_region 1 with (fail)
  refine wp_abs (In G w0 (Box w.heap.size 36 (ints [c1, c2]) :: Box p 106 #[.map (some b)] :: FMap b m :: l)) (HI0.out.alloc 36 (ints [c1, c2])) ?_
  generalize w.heap.size = cb
  intro w1 hI
  have hba := (Below.refl w1.heap.size w1).alloc (Nat.le_refl _) (.cells #[.int .i64 0, .int .i64 0] 36)
  have hmap := hI.third.mapAt
  have k0 : w1.cell? ⟨p, 0, none⟩ = some (.map (some b)) := hI.swap.blk.cell 0
  have k1 : row? w1 cb 0 2 = some #[.int .i64 c1, .int .i64 c2] := hI.blk.row_all (xs := [c1, c2]) rfl
  have k2 : row? (w1.alloc (.cells #[.int .i64 0, .int .i64 0] 36)) cb 0 2 = some #[.int .i64 c1, .int .i64 c2] := (hI.blk.after hba).row_all (xs := [c1, c2]) rfl
  have k3 : (w1.alloc (.cells #[.int .i64 0, .int .i64 0] 36)).cell? ⟨p, 0, none⟩ = some (.map (some b)) := (hI.swap.blk.after hba).cell 0
  have hl1 := look_fam hmap (c1, c2) (Below.refl _ _).drew
  have hl2 := look_fam hmap (c1, c2) (((Below.refl _ w1).alloc (Nat.le_refl _) (.cells #[.int .i64 0, .int .i64 0] 36)).drew)
  have HI := Lib.hid hI
  rw [hdV_eq] at hl1 hl2
  have HRR : Hid ((parentR m (c1, c2)).2 = (mget m (c1, c2)).isSome) := rfl
  generalize parentR m (c1, c2) = r at *
  obtain ⟨⟨r1, r2⟩, is⟩ := r
  simp only [hdV_eq] at hl1 hl2 HRR
  clear hI hmap hba HI0
  have HMOVE : Hid (∀ w2, w2 = (putRow (w1.alloc (.cells (ints [0, 0]) 36)) w1.heap.size 0 [r1, r2]).drew → In G w0 (Box p 106 #[.map (some b)] :: FMap b m :: Box cb 36 (ints [c1, c2]) :: l) w2) := fun w2 e => by
    rw [e]
    exact ((HI.out.below (below_new_put w1 36 [0, 0] [r1, r2]).drew).perm ((List.Perm.swap _ _ _).trans ((List.Perm.swap _ _ _).cons _)))
  go_region
  all_goals
    go_upto_region 2 with (fail)
    refine wp_abs (In G w0 (Box p 106 #[.map (some b)] :: FMap b m :: Box cb 36 (ints [c1, c2]) :: l)) (HMOVE.out _ rfl) ?_
    intro w2 hI2
    have HI2 := Lib.hid hI2
    have k4 : w2.cell? ⟨p, 0, none⟩ = some (.map (some b)) := hI2.blk.cell 0
    have k5 : row? w2 cb 0 2 = some #[.int .i64 c1, .int .i64 c2] := hI2.third.blk.row_all (xs := [c1, c2]) rfl
    clear hI2 hl1 hl2 k0 k1 k2 k3 HMOVE HI
    cases is
    · have HL : Hid (loosenR m (c1, c2) = (m, 5)) := by unfold Hid loosenR; rw [← HRR.out]; rfl
      go_wp2_with fail
      go_ret
      rw [HL.out]
      exact ⟨rfl, In.shutFam HM.out HI2.out.third.drop⟩
    · have HL : Hid (loosenR m (c1, c2) = (mdel m (c1, c2), 0)) := by unfold Hid loosenR; rw [← HRR.out]; rfl
      go_wp2_with fail
      go_still_tail 5, (by kernel_rfl)
      change wpList _ _ _ _ _ w2.drew
      have HI3 := Lib.hid HI2.out.drew
      clear HI2 k4 k5
      generalize w2.drew = w3 at *
      go_wp2_with (at_delete; go_loud (refine wpList_drop keyHd rfl _ _ 104 36 rfl Try.underlying104 b m rfl HI3.out.swap.mapAt (c1, c2) rfl trivial ?_))
      intro w4 h1 h2 h3
      have HI4 := Lib.hid (In.mapped HI3.out.swap h1 h2)
      clear h1 h2 h3
      go_wp2_with fail
      go_ret
      rw [HL.out]
      have hok := HM.out.loosen (c1, c2)
      rw [HL.out] at hok
      exact ⟨rfl, In.shutFam hok HI4.out.swap.third.drop⟩

end Go.Proofs.Ytpgdobomcdpdbaa
