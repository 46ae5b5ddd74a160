/-
  Several texts in one (merged by a program of mine): FamSort, FamKids, FamBonds.
-/
import Derived.Test.YtpgcghnlepnoiaaGreatDoorTP23
set_option linter.unusedVariables false
set_option linter.unusedSimpArgs false
set_option linter.unusedSectionVars false
/-
  The sorts of a family: handles by family.Compare, bonds by their children; one element appended among other things in memory.
-/
namespace Go.Proofs.YtpgcghnlepnoiaaGreatDoor
open Go.RowKit Go.Sort

section
variable {G : Nat → Prop} {w0 w w' : World} {l : List Assn}
theorem swoH : SWO (ltOf cmpH) where
  irrefl x := by unfold ltOf; rw [cmpH_neg]; unfold hLt; simp
  trans x y z h1 h2 := by
    unfold ltOf at *
    rw [cmpH_neg] at *
    unfold hLt at *
    simp only [Bool.or_eq_true, Bool.and_eq_true, decide_eq_true_eq] at *
    omega
  ntrans x y z h1 h2 := by
    unfold ltOf at *
    rw [cmpH_neg] at *
    unfold hLt at *
    simp only [Bool.or_eq_false_iff, Bool.and_eq_false_iff, decide_eq_false_iff_not] at *
    omega
theorem pair_hLe {α : Type} {key : α → Hd} {ys : List α} (h : ys.Pairwise fun a b => decide (cmpH (key b) (key a) < 0) = false) : ys.Pairwise fun a b => kLe key a b = true :=
  h.imp fun {a b} h => by unfold kLe hLe; rw [← cmpH_neg, h]; rfl

theorem sortH_in {v : Value} {xs : List Hd} (h : In G w0 (RowH v xs :: l) w) (hl : xs.length ≤ 1099511627776) :
    Calls Tryz.prog 165 #[v, .func (.func 44) #[] #[]] w fun e w' => e = .returned (.tuple #[]) ∧ In G w0 (RowH v (xs.mergeSort hLe) :: l) w' := by
  have hcon := sort_in (ρ := sortHandle_ren) (enc := hC) sortHandle_lay Tryz.isAgg46 Tryz.sizeOf46 hC_len (fun x u hu => by simp [hC] at hu; rcases hu with rfl | rfl <;> rfl) cmpH swoH 44
    (enters_of Tryz.func44 (by kernel_rfl) rfl) (fun blk off size w m os dk _ x y => compare_any x y (sortWorldK hC 2 w blk off m dk os)) 46 h (by omega)
  change Calls Tryz.prog 165 _ _ _ at hcon
  refine hcon.mono ?_
  rintro e w' ⟨rfl, ys, hp, hs, hI⟩
  have e1 : ys = xs.mergeSort hLe := sort_of_sorted hp (pair_hLe (key := id) hs)
  subst e1
  exact ⟨rfl, hI⟩

def bC (b : Hd × Hd) : List Value := [.int .i64 b.1.1, .int .i64 b.1.2, .int .i64 b.2.1, .int .i64 b.2.2]
def bL (b : Hd × Hd) : List Int := [b.1.1, b.1.2, b.2.1, b.2.2]
theorem bC_len (b : Hd × Hd) : (bC b).length = 4 := rfl
theorem bL_len (b : Hd × Hd) : (bL b).length = 4 := rfl
abbrev RowB (v : Value) (bs : List (Hd × Hd)) : Assn := RowA 56 4 v bs.length (bs.flatMap bC)
def cmpB (a b : Hd × Hd) : Int := cmpH a.1 b.1
theorem swoB : SWO (ltOf cmpB) where
  irrefl x := swoH.irrefl x.1
  trans x y z := swoH.trans x.1 y.1 z.1
  ntrans x y z := swoH.ntrans x.1 y.1 z.1
set_option maxRecDepth 100000 in
theorem bonds1_any (x y : Hd × Hd) (w : World) : Calls Tryz.prog 71 #[.agg (ints (bL x)), .agg (ints (bL y))] w fun e w' => e = .returned (.int .i64 (cmpB x y)) ∧ ∃ q os, w' = Sort.grow (w.drewN q) os := by
  obtain ⟨⟨x1, x2⟩, ⟨x3, x4⟩⟩ := x
  obtain ⟨⟨y1, y2⟩, ⟨y3, y4⟩⟩ := y
  go_enter Tryz.func71, Tryz.ntmps71
  go_upto_region 1 with (fail)
  have k1 : row? ((w.alloc (.cells (ints [x1, x2, x3, x4]) 56)).alloc (.cells (ints [y1, y2, y3, y4]) 56)) w.heap.size 0 2 = some (ints [x1, x2]) := ((Blk.new w 56 (ints [x1, x2, x3, x4])).alloc _).row_ints 0 2 (by simp)
  have k2 : row? ((w.alloc (.cells (ints [x1, x2, x3, x4]) 56)).alloc (.cells (ints [y1, y2, y3, y4]) 56)) (w.heap.size + 1) 0 2 = some (ints [y1, y2]) := by
    have := Blk.new (w.alloc (.cells (ints [x1, x2, x3, x4]) 56)) 56 (ints [y1, y2, y3, y4])
    rw [World.size_alloc] at this
    exact this.row_ints 0 2 (by simp)
  have HW : Hid (((w.alloc (.cells (ints [x1, x2, x3, x4]) 56)).alloc (.cells (ints [y1, y2, y3, y4]) 56)) = Sort.grow w #[.cells (ints [x1, x2, x3, x4]) 56, .cells (ints [y1, y2, y3, y4]) 56]) := by
    unfold Hid; rw [Sort.alloc_eq_grow, Sort.alloc_eq_grow, Sort.grow_grow]; rfl
  change Code.wp _ _ _ _ ((w.alloc (.cells (ints [x1, x2, x3, x4]) 56)).alloc (.cells (ints [y1, y2, y3, y4]) 56))
  generalize ((w.alloc (.cells (ints [x1, x2, x3, x4]) 56)).alloc (.cells (ints [y1, y2, y3, y4]) 56)) = w2 at *
  go_wp2_with fail
  refine (compare_any (x1, x2) (y1, y2) w2).mono ?_
  rintro e w3 ⟨rfl, q, os, rfl⟩
  go_wp2_with fail
  go_ret
  refine ⟨rfl, q, #[.cells (ints [x1, x2, x3, x4]) 56, .cells (ints [y1, y2, y3, y4]) 56] ++ os, ?_⟩
  rw [HW.out]
  exact Sort.grow_grow (w.drewN q) _ os
theorem sortB_in {v : Value} {xs : List (Hd × Hd)} (hn : ∀ a ∈ xs, ∀ b ∈ xs, a.1 = b.1 → a = b) (h : In G w0 (RowB v xs :: l) w) (hl : xs.length ≤ 1099511627776) :
    Calls Tryz.prog 70 #[v, .func (.func 71) #[] #[]] w fun e w' => e = .returned (.tuple #[]) ∧ In G w0 (RowB v (xs.mergeSort (kLe (·.1))) :: l) w' := by
  have h1 : ∀ x, ∀ u ∈ bC x, u.oneCell' = true := fun x u hu => by simp [bC] at hu; rcases hu with rfl | rfl | rfl | rfl <;> rfl
  have h2 : ∀ blk off size w, CmpLays Tryz.prog 71 #[] bC 4 cmpB blk off size w := fun blk off size w m os dk _ x y => bonds1_any x y (sortWorldK bC 4 w blk off m dk os)
  have h3 : ∀ args w, (callFunc 71 args).run Tryz.prog w = .ok (.enter 71 args) w := enters_of Tryz.func71 (by kernel_rfl) rfl
  have hcon := sort_in (ρ := sortBond_ren) (enc := bC) sortBond_lay Tryz.isAgg56 Tryz.sizeOf56 bC_len h1 cmpB swoB 71 h3 h2 56 h (by omega)
  change Calls Tryz.prog 70 _ _ _ at hcon
  refine hcon.mono ?_
  rintro e w' ⟨rfl, ys, hp, hs, hI⟩
  have hs2 : ys.Pairwise fun a b => kLe (fun b : Hd × Hd => b.1) a b = true := hs.imp fun {a b} h => by unfold kLe hLe; rw [← cmpH_neg]; unfold cmpB at h; rw [h]; rfl
  have e1 : ys = xs.mergeSort (kLe (fun b : Hd × Hd => b.1)) := ksort_of_sorted _ hn hp hs2
  rw [e1] at hI
  exact ⟨rfl, hI⟩
end

end Go.Proofs.YtpgcghnlepnoiaaGreatDoor

/-
  The contracts of family.Children and family.Bonds.
-/
namespace Go.Proofs.YtpgcghnlepnoiaaGreatDoor
open Go.RowKit

theorem kidsRaw_perm {m m' : Fam} (hp : m.Perm m') (h : Hd) : (kidsRaw m h).Perm (kidsRaw m' h) := (hp.filter _).map _
theorem kidsRaw_cons (x v h : Hd) (m : Fam) : kidsRaw ((x, v) :: m) h = if v = h then x :: kidsRaw m h else kidsRaw m h := by
  unfold kidsRaw
  rw [List.filter_cons]
  by_cases e : v = h <;> simp [e]
theorem kidsRaw_len (m : Fam) (h : Hd) : (kidsRaw m h).length ≤ m.length := by
  unfold kidsRaw
  rw [List.length_map]
  exact List.length_filter_le _ _
/-- what has been collected, and what is still to come, are all the children -/
theorem kids_step {m left coll : List (Hd × Hd)} {cs : List Hd} {x v h : Hd} (hn : (mkeys left).Nodup) (hx : (x, v) ∈ left) (hp : (cs ++ kidsRaw left h).Perm (kidsRaw m h)) :
    ((if v = h then cs ++ [x] else cs) ++ kidsRaw (mdel left x) h).Perm (kidsRaw m h) := by
  have h1 := kidsRaw_perm (mdel_perm hn hx) h
  rw [kidsRaw_cons] at h1
  refine List.Perm.trans ?_ hp
  split
  · rename_i e
    rw [if_pos e] at h1
    rw [List.append_assoc]
    exact List.Perm.append_left _ h1.symm
  · rename_i e
    rw [if_neg e] at h1
    exact List.Perm.append_left _ h1.symm

set_option maxHeartbeats 1000000 in
set_option maxRecDepth 100000 in
theorem fchildren_in {G : Nat → Prop} {w0 w : World} {l : List Assn} {p : Nat} {m : Fam} (h : In G w0 (FamA p m :: l) w) (a : Hd) (hl : m.length ≤ 1099511627776) :
    Calls Tryz.prog 127 #[.pointer (some ⟨p, 0, none⟩), hdV a] w fun e w' => ∃ v, e = .returned v ∧ In G w0 (RowH v (kids m a) :: FamA p m :: l) w' := by
  obtain ⟨hm, b, hI⟩ := h.openFam
  have HM := Lib.hid hm
  have HI0 := Lib.hid hI
  clear h hm hI
  obtain ⟨a1, a2⟩ := a
  rw [hdV_eq]
  obtain ⟨i0, hi0, hz0, hz1, hz2⟩ := info_parts handle_partsF
  have heq : ∀ (x y : List Int) W, x.length = 2 → y.length = 2 → (binOp .eql 46 (.agg (ints x)) (.agg (ints y))).run Tryz.prog W = .ok (.bool (decide (x = y))) W := fun x y W h1 h2 => eql_handle x y h1 h2 W
  have HEQ := Lib.hid heq
  clear heq
  go_enter Tryz.func127, Tryz.ntmps127
  go_upto_region 1 with (fail)
  refine wp_abs (In G w0 (Box w.heap.size 46 (ints [a1, a2]) :: Box p 126 #[.map (some b)] :: FMap b m :: l)) (HI0.out.alloc 46 (ints [a1, a2])) ?_
  generalize w.heap.size = ab
  intro w1 hI
  have k0 : w1.cell? ⟨p, 0, none⟩ = some (.map (some b)) := hI.swap.blk.cell 0
  have HI1 := Lib.hid hI.third
  clear hI HI0
  go_wp2_with (at_range; go_loud (refine wpList_rangeOver rfl _ 124 46 rfl Tryz.underlying124 b _ rfl (In.mapAt HI1.out) ?_))
  intro w2 hr2 hb2 hs2
  have HI2 : Hid (In G w0 (RowA 46 2 (.slice none 0 0) 0 [] :: RangeA hdV hdV (fun _ => True) b w1.heap.size m m :: Box ab 46 (ints [a1, a2]) :: Box p 126 #[.map (some b)] :: l) w2) := In.nilRow (In.ranged HI1.out hr2 hb2 hs2) _ _
  generalize w1.heap.size = ri at *
  clear hr2 hb2 hs2 HI1 k0
  go_wp2_with fail
  go_loopw [14, 5] (fun _ out w' => ∃ (left : Fam) (cs : List Hd), (mkeys left).Nodup ∧ (cs ++ kidsRaw left (a1, a2)).Perm (kidsRaw m (a1, a2)) ∧ In G w0 (RowH out cs :: RangeA hdV hdV (fun _ => True) b ri m left :: Box ab 46 (ints [a1, a2]) :: Box p 126 #[.map (some b)] :: l) w') (fun _ _ w' => w'.rangeLeft b ri)
  case atStart => exact ⟨m, [], HM.out.nodup, by simp, HI2.out⟩
  case round =>
    clear HI2
    obtain ⟨left, cs, hnd, hp, hI⟩ := hrel
    have HND := Lib.hid hnd
    clear hnd
    have HI := Lib.hid hI.swap
    have HP := Lib.hid hp
    clear hI hp
    go_wp2_with (at_next; go_loud (refine wpList_nextOf keyHd rfl _ rfl b ri _ left rfl (In.rangeAt HI.out) ?_ ?_))
    · intro hl0
      subst hl0
      have HPC : Hid (kids m (a1, a2) = cs.mergeSort hLe) := by
        have := HP.out
        simp [kidsRaw] at this
        exact (sort_perm this).symm
      have hcl : cs.length ≤ 1099511627776 := by
        have h1 := HP.out.length_eq
        have h2 := kidsRaw_len m (a1, a2)
        simp at h1
        omega
      have HI3 := Lib.hid HI.out.swap
      clear HI
      go_wp2_with fail
      refine (sortH_in HI3.out hcl).mono ?_
      rintro e w3 ⟨rfl, hI4⟩
      have HI4 := Lib.hid hI4
      clear hI4 HI3
      go_wp2_with fail
      go_ret
      refine ⟨_, rfl, ?_⟩
      rw [HPC.out]
      exact (In.shutFam HM.out (HI4.out.swap.unranged.third.drop.third)).swap
    · intro x1 x2 v1 v2 w7 hx hr7 ho7 hs7 hlt7 hen
      have HI7 := Lib.hid (In.stepped HI.out hr7 ho7)
      have HLEN := Lib.hid hlt7
      have HX := Lib.hid hx
      obtain ⟨f1, f2⟩ := two_fits w7 46 46 [0, 0] [0, 0] [x1, x2]
      clear hr7 ho7 hs7 hlt7 hx
      go_upto_region 5 with (fail)
      refine wp_abs (In G w0 (Box (w7.heap.size + 1) 46 (ints [v1, v2]) :: Box w7.heap.size 46 (ints [x1, x2]) :: RangeA hdV hdV (fun _ => True) b ri m (mdel left (x1, x2)) :: RowH u5 cs :: Box ab 46 (ints [a1, a2]) :: Box p 126 #[.map (some b)] :: l)) (HI7.out.struct2 46 46 [0, 0] [0, 0] [x1, x2] [v1, v2] rfl rfl) ?_
      clear f1 f2 hen HI7
      generalize w7.heap.size + 1 = vb
      generalize w7.heap.size = xb
      intro w8 hI8
      have q1 : row? w8 vb 0 2 = some (ints [v1, v2]) := hI8.blk.row_all rfl
      have q2 : row? w8 xb 0 2 = some (ints [x1, x2]) := hI8.swap.blk.row_all rfl
      have q3 : row? w8 ab 0 2 = some (ints [a1, a2]) := (hI8.drop.fourth).blk.row_all rfl
      have hn := HEQ.out [v1, v2] [a1, a2]
      have HI8 : Hid (In G w0 (RowH u5 cs :: RangeA hdV hdV (fun _ => True) b ri m (mdel left (x1, x2)) :: Box ab 46 (ints [a1, a2]) :: Box p 126 #[.map (some b)] :: l) w8) := hI8.drop.drop.swap
      have HST := Lib.hid (kids_step (coll := []) (left := left) (cs := cs) (x := (x1, x2)) (v := (v1, v2)) (h := (a1, a2)) HND.out HX.out HP.out)
      have hn2 : ∀ W, (binOp .eql 46 (.agg (ints [v1, v2])) (.agg (ints [a1, a2]))).run Tryz.prog W = .ok (.bool (decide ([v1, v2] = [a1, a2]))) W := fun W => hn W rfl rfl
      clear hI8 hn
      by_cases e : (v1, v2) = (a1, a2)
      · have hd : decide ([v1, v2] = [a1, a2]) = true := by rw [decide_eq_true_eq]; injection e with e1 e2; rw [e1, e2]
        rw [hd] at hn2
        rw [if_pos e] at HST
        have hcl : cs.length + 1 ≤ 1099511627776 := by
          have h1 := HST.out.length_eq
          have h2 := kidsRaw_len m (a1, a2)
          simp at h1
          omega
        have HO := Lib.hid HI8.out.rowAt
        clear e hd
        go_wp2_with (at_builtin; go_loud (refine wpList_append1_at rfl _ _ 119 rfl 0 46 i0 _ 2 16 Tryz.underlying119 hi0 hz0 hz1 hz2 rfl (by decide) u5 cs.length (cs.flatMap hC) rfl HO.out [.int .i64 x1, .int .i64 x2] rfl rfl (by simp [Value.oneCell']) ?_ ?_ (Nat.zero_le _) ?_))
        case refine_1 => unfold maxLen; omega
        case refine_2 => omega
        intro v' w9 ho hg hor
        have HI9 := Lib.hid (In.appendH (x := (x1, x2)) HI8.out ho hg hor)
        clear ho hg hor q1 q2 q3 hn2
        go_wp2_with fail
        go_roundw
        case rel => exact ⟨mdel left (x1, x2), cs ++ [(x1, x2)], mdel_nodup HND.out _, HST.out, HI9.out⟩
        case measure => rw [(In.rangeAt HI9.out.swap).count, (In.rangeAt HI.out).count]; exact HLEN.out
      · have hd : decide ([v1, v2] = [a1, a2]) = false := by
          rw [decide_eq_false_iff_not]
          intro e'
          injection e' with e1 e2
          injection e2 with e2 _
          exact e (by rw [e1, e2])
        rw [hd] at hn2
        rw [if_neg e] at HST
        clear e hd
        go_wp2_with fail
        go_roundw
        case rel => exact ⟨mdel left (x1, x2), cs, mdel_nodup HND.out _, HST.out, HI8.out⟩
        case measure => rw [(In.rangeAt HI8.out.swap).count, (In.rangeAt HI.out).count]; exact HLEN.out

end Go.Proofs.YtpgcghnlepnoiaaGreatDoor

/-
  The contract of family.Bonds.
-/
namespace Go.Proofs.YtpgcghnlepnoiaaGreatDoor
open Go.RowKit

theorem bond_parts : (Tryz.prog.info? 56).map (fun i => (i.zero, i.size, i.bytes)) = some (some (.agg #[.int .i64 0, .int .i64 0, .int .i64 0, .int .i64 0]), 4, 32) := by kernel_rfl
theorem In.appendB {G : Nat → Prop} {w0 w w' : World} {l : List Assn} {v v' : Value} {bs : List (Hd × Hd)} {x : Hd × Hd} {o : Obj} (h : In G w0 (RowB v bs :: l) w) (hown : w'.ownsRow 0 56 4 v' (bs.length + 1) (bs.flatMap bC ++ [.int .i64 x.1.1, .int .i64 x.1.2, .int .i64 x.2.1, .int .i64 x.2.2])) (hg : (w.alloc o).grownBy w' v.ownBlock)
    (hor : v'.ownBlock = v.ownBlock ∨ v'.ownBlock = some (w.heap.size + 1)) : In G w0 (RowB v' (bs ++ [x]) :: l) w' := by
  have := h.append1 hown hg hor
  unfold RowB
  rw [List.length_append, List.flatMap_append]
  exact this
theorem bonds_of_perm {m bs : Fam} (hm : FamOk m) (hp : bs.Perm m) : bs.mergeSort (kLe (fun b : Hd × Hd => b.1)) = bondsOf m :=
  ksort_of_sorted (fun b : Hd × Hd => b.1) (bond_inj hm.nodup) ((List.mergeSort_perm _ _).trans hp) (ksort_sorted _ _)
set_option maxHeartbeats 1000000 in
set_option maxRecDepth 100000 in
theorem fbonds_in {G : Nat → Prop} {w0 w : World} {l : List Assn} {p : Nat} {m : Fam} (h : In G w0 (FamA p m :: l) w) (hl : m.length ≤ 1099511627776) :
    Calls Tryz.prog 39 #[.pointer (some ⟨p, 0, none⟩)] w fun e w' => ∃ v, e = .returned v ∧ In G w0 (RowB v (bondsOf m) :: FamA p m :: l) w' := by
  obtain ⟨hm, b, hI⟩ := h.openFam
  have HM := Lib.hid hm
  have HI0 := Lib.hid hI.swap
  have k0 : w.cell? ⟨p, 0, none⟩ = some (.map (some b)) := hI.blk.cell 0
  clear h hm hI
  obtain ⟨i0, hi0, hz0, hz1, hz2⟩ := info_parts bond_parts
  go_enter Tryz.func39, Tryz.ntmps39
  go_wp2_with (at_range; go_loud (refine wpList_rangeOver rfl _ 124 46 rfl Tryz.underlying124 b _ rfl (In.mapAt HI0.out) ?_))
  intro w2 hr2 hb2 hs2
  have HI2 : Hid (In G w0 (RowA 56 4 (.slice none 0 0) 0 [] :: RangeA hdV hdV (fun _ => True) b w.heap.size m m :: Box p 126 #[.map (some b)] :: l) w2) := In.nilRow (In.ranged HI0.out hr2 hb2 hs2) _ _
  generalize w.heap.size = ri at *
  clear hr2 hb2 hs2 HI0 k0
  go_wp2_with fail
  go_loopw [12, 3] (fun _ out w' => ∃ (left : Fam) (bs : Fam), (mkeys left).Nodup ∧ (bs ++ left).Perm m ∧ In G w0 (RowB out bs :: RangeA hdV hdV (fun _ => True) b ri m left :: Box p 126 #[.map (some b)] :: l) w') (fun _ _ w' => w'.rangeLeft b ri)
  case atStart => exact ⟨m, [], HM.out.nodup, by simp, HI2.out⟩
  case round =>
    clear HI2
    obtain ⟨left, bs, hnd, hp, hI⟩ := hrel
    have HND := Lib.hid hnd
    have HI := Lib.hid hI.swap
    have HP := Lib.hid hp
    clear hnd hI hp
    go_wp2_with (at_next; go_loud (refine wpList_nextOf keyHd rfl _ rfl b ri _ left rfl (In.rangeAt HI.out) ?_ ?_))
    · intro hl0
      subst hl0
      have hpm : bs.Perm m := by simpa using HP.out
      have hcl : bs.length ≤ 1099511627776 := by rw [hpm.length_eq]; exact hl
      have hinj := (bond_inj (HM.out.nodup))
      have HINJ : Hid (∀ a ∈ bs, ∀ b ∈ bs, a.1 = b.1 → a = b) := fun a ha b hb => hinj a (hpm.subset ha) b (hpm.subset hb)
      have HB := Lib.hid (bonds_of_perm HM.out hpm)
      have HI3 := Lib.hid HI.out.swap
      clear HI hpm hinj
      go_wp2_with fail
      refine (sortB_in HINJ.out HI3.out hcl).mono ?_
      rintro e w3 ⟨rfl, hI4⟩
      rw [HB.out] at hI4
      have HI4 := Lib.hid hI4
      clear hI4 HI3
      go_wp2_with fail
      go_ret
      exact ⟨_, rfl, (In.shutFam HM.out (HI4.out.swap.unranged.third)).perm ((List.Perm.refl _)) |>.swap⟩
    · intro x1 x2 v1 v2 w7 hx hr7 ho7 hs7 hlt7 hen
      have HI7 := Lib.hid (In.stepped HI.out hr7 ho7)
      have HLEN := Lib.hid hlt7
      have HST : Hid ((bs ++ [((x1, x2), (v1, v2))] ++ mdel left (x1, x2)).Perm m) := by
        refine List.Perm.trans ?_ HP.out
        rw [List.append_assoc]
        exact List.Perm.append_left _ (mdel_perm HND.out hx).symm
      have hcl : bs.length + 1 ≤ 1099511627776 := by
        have h1 := HST.out.length_eq
        simp at h1
        omega
      obtain ⟨f1, f2⟩ := two_fits w7 46 46 [0, 0] [0, 0] [x1, x2]
      clear hr7 ho7 hs7 hlt7 hx
      go_upto_region 5 with (fail)
      refine wp_abs (In G w0 (Box (w7.heap.size + 1) 46 (ints [v1, v2]) :: Box w7.heap.size 46 (ints [x1, x2]) :: RangeA hdV hdV (fun _ => True) b ri m (mdel left (x1, x2)) :: RowB u3 bs :: Box p 126 #[.map (some b)] :: l)) (HI7.out.struct2 46 46 [0, 0] [0, 0] [x1, x2] [v1, v2] rfl rfl) ?_
      clear f1 f2 hen HI7
      generalize w7.heap.size + 1 = vb
      generalize w7.heap.size = xb
      intro w8 hI8
      have q1 : row? w8 vb 0 2 = some #[.int .i64 v1, .int .i64 v2] := hI8.blk.row_all (xs := [v1, v2]) rfl
      have q2 : row? w8 xb 0 2 = some #[.int .i64 x1, .int .i64 x2] := hI8.swap.blk.row_all (xs := [x1, x2]) rfl
      have HI8 : Hid (In G w0 (RowB u3 bs :: RangeA hdV hdV (fun _ => True) b ri m (mdel left (x1, x2)) :: Box p 126 #[.map (some b)] :: l) w8) := hI8.drop.drop.swap
      have HO := Lib.hid HI8.out.rowAt
      clear hI8
      go_wp2_with (at_builtin; go_loud (refine wpList_append1_at rfl _ _ 24 rfl 0 56 i0 _ 4 32 Tryz.underlying24 hi0 hz0 hz1 hz2 rfl (by decide) u3 bs.length (bs.flatMap bC) rfl HO.out [.int .i64 x1, .int .i64 x2, .int .i64 v1, .int .i64 v2] rfl rfl (by simp [Value.oneCell']) ?_ ?_ (Nat.zero_le _) ?_))
      case refine_1 => unfold maxLen; omega
      case refine_2 => omega
      intro v' w9 ho hg hor
      have HI9 := Lib.hid (In.appendB (x := ((x1, x2), (v1, v2))) HI8.out ho hg hor)
      clear ho hg hor q1 q2
      go_wp2_with fail
      go_roundw
      case rel => exact ⟨mdel left (x1, x2), bs ++ [((x1, x2), (v1, v2))], mdel_nodup HND.out _, HST.out, HI9.out⟩
      case measure => rw [(In.rangeAt HI9.out.swap).count, (In.rangeAt HI.out).count]; exact HLEN.out

end Go.Proofs.YtpgcghnlepnoiaaGreatDoor
