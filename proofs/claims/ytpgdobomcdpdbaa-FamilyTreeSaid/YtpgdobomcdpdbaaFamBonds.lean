/-
  The contract of family.Bonds.
-/
import Derived.Test.YtpgdobomcdpdbaaFamKids
namespace Go.Proofs.Ytpgdobomcdpdbaa
open Go.RowKit

theorem bond_parts : (Try.prog.info? 59).map (fun i => (i.zero, i.size, i.bytes)) = some (some (.agg #[.int .i64 0, .int .i64 0, .int .i64 0, .int .i64 0]), 4, 32) := by kernel_rfl
theorem In.appendB {G : Nat → Prop} {w0 w w' : World} {l : List Assn} {v v' : Value} {bs : List (Hd × Hd)} {x : Hd × Hd} {o : Obj} (h : In G w0 (RowB v bs :: l) w) (hown : w'.ownsRow 0 59 4 v' (bs.length + 1) (bs.flatMap bC ++ [.int .i64 x.1.1, .int .i64 x.1.2, .int .i64 x.2.1, .int .i64 x.2.2])) (hg : (w.alloc o).grownBy w' v.ownBlock)
    (hor : v'.ownBlock = v.ownBlock ∨ v'.ownBlock = some (w.heap.size + 1)) : In G w0 (RowB v' (bs ++ [x]) :: l) w' := by
  have := h.append1 hown hg hor
  unfold RowB
  rw [List.length_append, List.flatMap_append]
  exact this
theorem bonds_of_perm {m bs : Fam} (hm : FamOk m) (hp : bs.Perm m) : bs.mergeSort (kLe (fun b : Hd × Hd => b.1)) = bondsOf m :=
  ksort_of_sorted (fun b : Hd × Hd => b.1) (bond_inj hm.nodup) ((List.mergeSort_perm _ _).trans hp) (ksort_sorted _ _)
set_option maxHeartbeats 1000000 in
set_option maxRecDepth 100000 in
theorem fbonds_in {G : Nat → Prop} {w0 w : World} {l : List Assn} {p : Nat} {m : Fam} (h : In G w0 (FamA p m :: l) w) (hl : m.length ≤ 1099511627776) :
    Calls Try.prog 28 #[.pointer (some ⟨p, 0, none⟩)] w fun e w' => ∃ v, e = .returned v ∧ In G w0 (RowB v (bondsOf m) :: FamA p m :: l) w' := by
  obtain ⟨hm, b, hI⟩ := h.openFam
  have HM := Lib.hid hm
  have HI0 := Lib.hid hI.swap
  have k0 : w.cell? ⟨p, 0, none⟩ = some (.map (some b)) := hI.blk.cell 0
  clear h hm hI
  obtain ⟨i0, hi0, hz0, hz1, hz2⟩ := info_parts bond_parts
  go_enter Try.func28, Try.ntmps28
  go_wp2_with (at_range; go_loud (refine wpList_rangeOver rfl _ 104 36 rfl Try.underlying104 b _ rfl (In.mapAt HI0.out) ?_))
  intro w2 hr2 hb2 hs2
  have HI2 : Hid (In G w0 (RowA 59 4 (.slice none 0 0) 0 [] :: RangeA hdV hdV (fun _ => True) b w.heap.size m m :: Box p 106 #[.map (some b)] :: l) w2) := In.nilRow (In.ranged HI0.out hr2 hb2 hs2) _ _
  generalize w.heap.size = ri at *
  clear hr2 hb2 hs2 HI0 k0
  go_wp2_with fail
  go_loopw [12, 3] (fun _ out w' => ∃ (left : Fam) (bs : Fam), (mkeys left).Nodup ∧ (bs ++ left).Perm m ∧ In G w0 (RowB out bs :: RangeA hdV hdV (fun _ => True) b ri m left :: Box p 106 #[.map (some b)] :: l) w') (fun _ _ w' => w'.rangeLeft b ri)
  case atStart => exact ⟨m, [], HM.out.nodup, by simp, HI2.out⟩
  case round =>
    clear HI2
    obtain ⟨left, bs, hnd, hp, hI⟩ := hrel
    have HND := Lib.hid hnd
    have HI := Lib.hid hI.swap
    have HP := Lib.hid hp
    clear hnd hI hp
    go_wp2_with (at_next; go_loud (refine wpList_nextOf keyHd rfl _ rfl b ri _ left rfl (In.rangeAt HI.out) ?_ ?_))
    · intro hl0
      subst hl0
      have hpm : bs.Perm m := by simpa using HP.out
      have hcl : bs.length ≤ 1099511627776 := by rw [hpm.length_eq]; exact hl
      have hinj := (bond_inj (HM.out.nodup))
      have HINJ : Hid (∀ a ∈ bs, ∀ b ∈ bs, a.1 = b.1 → a = b) := fun a ha b hb => hinj a (hpm.subset ha) b (hpm.subset hb)
      have HB := Lib.hid (bonds_of_perm HM.out hpm)
      have HI3 := Lib.hid HI.out.swap
      clear HI hpm hinj
      go_wp2_with fail
      refine (sortB_in HINJ.out HI3.out hcl).mono ?_
      rintro e w3 ⟨rfl, hI4⟩
      rw [HB.out] at hI4
      have HI4 := Lib.hid hI4
      clear hI4 HI3
      go_wp2_with fail
      go_ret
      exact ⟨_, rfl, (In.shutFam HM.out (HI4.out.swap.unranged.third)).perm ((List.Perm.refl _)) |>.swap⟩
    · intro x1 x2 v1 v2 w7 hx hr7 ho7 hs7 hlt7 hen
      have HI7 := Lib.hid (In.stepped HI.out hr7 ho7)
      have HLEN := Lib.hid hlt7
      have HST : Hid ((bs ++ [((x1, x2), (v1, v2))] ++ mdel left (x1, x2)).Perm m) := by
        refine List.Perm.trans ?_ HP.out
        rw [List.append_assoc]
        exact List.Perm.append_left _ (mdel_perm HND.out hx).symm
      have hcl : bs.length + 1 ≤ 1099511627776 := by
        have h1 := HST.out.length_eq
        simp at h1
        omega
      obtain ⟨f1, f2⟩ := two_fits w7 36 36 [0, 0] [0, 0] [x1, x2]
      clear hr7 ho7 hs7 hlt7 hx
      go_upto_region 5 with (fail)
      refine wp_abs (In G w0 (Box (w7.heap.size + 1) 36 (ints [v1, v2]) :: Box w7.heap.size 36 (ints [x1, x2]) :: RangeA hdV hdV (fun _ => True) b ri m (mdel left (x1, x2)) :: RowB u3 bs :: Box p 106 #[.map (some b)] :: l)) (HI7.out.struct2 36 36 [0, 0] [0, 0] [x1, x2] [v1, v2] rfl rfl) ?_
      clear f1 f2 hen HI7
      generalize w7.heap.size + 1 = vb
      generalize w7.heap.size = xb
      intro w8 hI8
      have q1 : row? w8 vb 0 2 = some #[.int .i64 v1, .int .i64 v2] := hI8.blk.row_all (xs := [v1, v2]) rfl
      have q2 : row? w8 xb 0 2 = some #[.int .i64 x1, .int .i64 x2] := hI8.swap.blk.row_all (xs := [x1, x2]) rfl
      have HI8 : Hid (In G w0 (RowB u3 bs :: RangeA hdV hdV (fun _ => True) b ri m (mdel left (x1, x2)) :: Box p 106 #[.map (some b)] :: l) w8) := hI8.drop.drop.swap
      have HO := Lib.hid HI8.out.rowAt
      clear hI8
      go_wp2_with (at_builtin; go_loud (refine wpList_append1_at rfl _ _ 54 rfl 0 59 i0 _ 4 32 Try.underlying54 hi0 hz0 hz1 hz2 rfl (by decide) u3 bs.length (bs.flatMap bC) rfl HO.out [.int .i64 x1, .int .i64 x2, .int .i64 v1, .int .i64 v2] rfl rfl (by simp [Value.oneCell']) ?_ ?_ (Nat.zero_le _) ?_))
      case refine_1 => unfold maxLen; omega
      case refine_2 => omega
      intro v' w9 ho hg hor
      have HI9 := Lib.hid (In.appendB (x := ((x1, x2), (v1, v2))) HI8.out ho hg hor)
      clear ho hg hor q1 q2
      go_wp2_with fail
      go_roundw
      case rel => exact ⟨mdel left (x1, x2), bs ++ [((x1, x2), (v1, v2))], mdel_nodup HND.out _, HST.out, HI9.out⟩
      case measure => rw [(In.rangeAt HI9.out.swap).count, (In.rangeAt HI.out).count]; exact HLEN.out

end Go.Proofs.Ytpgdobomcdpdbaa
