/-
  The contracts of family.Children and family.Bonds.
-/
import Derived.Test.YtpgdobomcdpdbaaFamSort
import Derived.Test.YtpgdobomcdpdbaaFamGone
namespace Go.Proofs.Ytpgdobomcdpdbaa
open Go.RowKit

theorem kidsRaw_perm {m m' : Fam} (hp : m.Perm m') (h : Hd) : (kidsRaw m h).Perm (kidsRaw m' h) := (hp.filter _).map _
theorem kidsRaw_cons (x v h : Hd) (m : Fam) : kidsRaw ((x, v) :: m) h = if v = h then x :: kidsRaw m h else kidsRaw m h := by
  unfold kidsRaw
  rw [List.filter_cons]
  by_cases e : v = h <;> simp [e]
theorem kidsRaw_len (m : Fam) (h : Hd) : (kidsRaw m h).length ≤ m.length := by
  unfold kidsRaw
  rw [List.length_map]
  exact List.length_filter_le _ _
/-- what has been collected, and what is still to come, are all the children -/
theorem kids_step {m left coll : List (Hd × Hd)} {cs : List Hd} {x v h : Hd} (hn : (mkeys left).Nodup) (hx : (x, v) ∈ left) (hp : (cs ++ kidsRaw left h).Perm (kidsRaw m h)) :
    ((if v = h then cs ++ [x] else cs) ++ kidsRaw (mdel left x) h).Perm (kidsRaw m h) := by
  have h1 := kidsRaw_perm (mdel_perm hn hx) h
  rw [kidsRaw_cons] at h1
  refine List.Perm.trans ?_ hp
  split
  · rename_i e
    rw [if_pos e] at h1
    rw [List.append_assoc]
    exact List.Perm.append_left _ h1.symm
  · rename_i e
    rw [if_neg e] at h1
    exact List.Perm.append_left _ h1.symm

theorem handle_parts2 : (Try.prog.info? 36).map (fun i => (i.zero, i.size, i.bytes)) = some (some (.agg #[.int .i64 0, .int .i64 0]), 2, 16) := by kernel_rfl
set_option maxHeartbeats 1000000 in
set_option maxRecDepth 100000 in
theorem fchildren_in {G : Nat → Prop} {w0 w : World} {l : List Assn} {p : Nat} {m : Fam} (h : In G w0 (FamA p m :: l) w) (a : Hd) (hl : m.length ≤ 1099511627776) :
    Calls Try.prog 26 #[.pointer (some ⟨p, 0, none⟩), hdV a] w fun e w' => ∃ v, e = .returned v ∧ In G w0 (RowH v (kids m a) :: FamA p m :: l) w' := by
  obtain ⟨hm, b, hI⟩ := h.openFam
  have HM := Lib.hid hm
  have HI0 := Lib.hid hI
  clear h hm hI
  obtain ⟨a1, a2⟩ := a
  rw [hdV_eq]
  obtain ⟨i0, hi0, hz0, hz1, hz2⟩ := info_parts handle_parts2
  have heq : ∀ (x y : List Int) W, x.length = 2 → y.length = 2 → (binOp .eql 36 (.agg (ints x)) (.agg (ints y))).run Try.prog W = .ok (.bool (decide (x = y))) W := fun x y W h1 h2 => eql_handle x y h1 h2 W
  have HEQ := Lib.hid heq
  clear heq
  go_enter Try.func26, Try.ntmps26
  go_upto_region 1 with (fail)
  refine wp_abs (In G w0 (Box w.heap.size 36 (ints [a1, a2]) :: Box p 106 #[.map (some b)] :: FMap b m :: l)) (HI0.out.alloc 36 (ints [a1, a2])) ?_
  generalize w.heap.size = ab
  intro w1 hI
  have k0 : w1.cell? ⟨p, 0, none⟩ = some (.map (some b)) := hI.swap.blk.cell 0
  have HI1 := Lib.hid hI.third
  clear hI HI0
  go_wp2_with (at_range; go_loud (refine wpList_rangeOver rfl _ 104 36 rfl Try.underlying104 b _ rfl (In.mapAt HI1.out) ?_))
  intro w2 hr2 hb2 hs2
  have HI2 : Hid (In G w0 (RowA 36 2 (.slice none 0 0) 0 [] :: RangeA hdV hdV (fun _ => True) b w1.heap.size m m :: Box ab 36 (ints [a1, a2]) :: Box p 106 #[.map (some b)] :: l) w2) := In.nilRow (In.ranged HI1.out hr2 hb2 hs2) _ _
  generalize w1.heap.size = ri at *
  clear hr2 hb2 hs2 HI1 k0
  go_wp2_with fail
  go_loopw [14, 5] (fun _ out w' => ∃ (left : Fam) (cs : List Hd), (mkeys left).Nodup ∧ (cs ++ kidsRaw left (a1, a2)).Perm (kidsRaw m (a1, a2)) ∧ In G w0 (RowH out cs :: RangeA hdV hdV (fun _ => True) b ri m left :: Box ab 36 (ints [a1, a2]) :: Box p 106 #[.map (some b)] :: l) w') (fun _ _ w' => w'.rangeLeft b ri)
  case atStart => exact ⟨m, [], HM.out.nodup, by simp, HI2.out⟩
  case round =>
    clear HI2
    obtain ⟨left, cs, hnd, hp, hI⟩ := hrel
    have HND := Lib.hid hnd
    clear hnd
    have HI := Lib.hid hI.swap
    have HP := Lib.hid hp
    clear hI hp
    go_wp2_with (at_next; go_loud (refine wpList_nextOf keyHd rfl _ rfl b ri _ left rfl (In.rangeAt HI.out) ?_ ?_))
    · intro hl0
      subst hl0
      have HPC : Hid (kids m (a1, a2) = cs.mergeSort hLe) := by
        have := HP.out
        simp [kidsRaw] at this
        exact (sort_perm this).symm
      have hcl : cs.length ≤ 1099511627776 := by
        have h1 := HP.out.length_eq
        have h2 := kidsRaw_len m (a1, a2)
        simp at h1
        omega
      have HI3 := Lib.hid HI.out.swap
      clear HI
      go_wp2_with fail
      refine (sortH_in HI3.out hcl).mono ?_
      rintro e w3 ⟨rfl, hI4⟩
      have HI4 := Lib.hid hI4
      clear hI4 HI3
      go_wp2_with fail
      go_ret
      refine ⟨_, rfl, ?_⟩
      rw [HPC.out]
      exact (In.shutFam HM.out (HI4.out.swap.unranged.third.drop.third)).swap
    · intro x1 x2 v1 v2 w7 hx hr7 ho7 hs7 hlt7 hen
      have HI7 := Lib.hid (In.stepped HI.out hr7 ho7)
      have HLEN := Lib.hid hlt7
      have HX := Lib.hid hx
      obtain ⟨f1, f2⟩ := two_fits w7 36 36 [0, 0] [0, 0] [x1, x2]
      clear hr7 ho7 hs7 hlt7 hx
      go_upto_region 5 with (fail)
      refine wp_abs (In G w0 (Box (w7.heap.size + 1) 36 (ints [v1, v2]) :: Box w7.heap.size 36 (ints [x1, x2]) :: RangeA hdV hdV (fun _ => True) b ri m (mdel left (x1, x2)) :: RowH u5 cs :: Box ab 36 (ints [a1, a2]) :: Box p 106 #[.map (some b)] :: l)) (HI7.out.struct2 36 36 [0, 0] [0, 0] [x1, x2] [v1, v2] rfl rfl) ?_
      clear f1 f2 hen HI7
      generalize w7.heap.size + 1 = vb
      generalize w7.heap.size = xb
      intro w8 hI8
      have q1 : row? w8 vb 0 2 = some (ints [v1, v2]) := hI8.blk.row_all rfl
      have q2 : row? w8 xb 0 2 = some (ints [x1, x2]) := hI8.swap.blk.row_all rfl
      have q3 : row? w8 ab 0 2 = some (ints [a1, a2]) := (hI8.drop.fourth).blk.row_all rfl
      have hn := HEQ.out [v1, v2] [a1, a2]
      have HI8 : Hid (In G w0 (RowH u5 cs :: RangeA hdV hdV (fun _ => True) b ri m (mdel left (x1, x2)) :: Box ab 36 (ints [a1, a2]) :: Box p 106 #[.map (some b)] :: l) w8) := hI8.drop.drop.swap
      have HST := Lib.hid (kids_step (coll := []) (left := left) (cs := cs) (x := (x1, x2)) (v := (v1, v2)) (h := (a1, a2)) HND.out HX.out HP.out)
      have hn2 : ∀ W, (binOp .eql 36 (.agg (ints [v1, v2])) (.agg (ints [a1, a2]))).run Try.prog W = .ok (.bool (decide ([v1, v2] = [a1, a2]))) W := fun W => hn W rfl rfl
      clear hI8 hn
      by_cases e : (v1, v2) = (a1, a2)
      · have hd : decide ([v1, v2] = [a1, a2]) = true := by rw [decide_eq_true_eq]; injection e with e1 e2; rw [e1, e2]
        rw [hd] at hn2
        rw [if_pos e] at HST
        have hcl : cs.length + 1 ≤ 1099511627776 := by
          have h1 := HST.out.length_eq
          have h2 := kidsRaw_len m (a1, a2)
          simp at h1
          omega
        have HO := Lib.hid HI8.out.rowAt
        clear e hd
        go_wp2_with (at_builtin; go_loud (refine wpList_append1_at rfl _ _ 28 rfl 0 36 i0 _ 2 16 Try.underlying28 hi0 hz0 hz1 hz2 rfl (by decide) u5 cs.length (cs.flatMap hC) rfl HO.out [.int .i64 x1, .int .i64 x2] rfl rfl (by simp [Value.oneCell']) ?_ ?_ (Nat.zero_le _) ?_))
        case refine_1 => unfold maxLen; omega
        case refine_2 => omega
        intro v' w9 ho hg hor
        have HI9 := Lib.hid (In.appendH (x := (x1, x2)) HI8.out ho hg hor)
        clear ho hg hor q1 q2 q3 hn2
        go_wp2_with fail
        go_roundw
        case rel => exact ⟨mdel left (x1, x2), cs ++ [(x1, x2)], mdel_nodup HND.out _, HST.out, HI9.out⟩
        case measure => rw [(In.rangeAt HI9.out.swap).count, (In.rangeAt HI.out).count]; exact HLEN.out
      · have hd : decide ([v1, v2] = [a1, a2]) = false := by
          rw [decide_eq_false_iff_not]
          intro e'
          injection e' with e1 e2
          injection e2 with e2 _
          exact e (by rw [e1, e2])
        rw [hd] at hn2
        rw [if_neg e] at HST
        clear e hd
        go_wp2_with fail
        go_roundw
        case rel => exact ⟨mdel left (x1, x2), cs, mdel_nodup HND.out _, HST.out, HI8.out⟩
        case measure => rw [(In.rangeAt HI8.out.swap).count, (In.rangeAt HI.out).count]; exact HLEN.out

end Go.Proofs.Ytpgdobomcdpdbaa
