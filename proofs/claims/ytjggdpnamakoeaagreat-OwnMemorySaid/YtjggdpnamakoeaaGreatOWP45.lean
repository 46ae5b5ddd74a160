/-
  Several texts in one (merged by a program of mine): DiffKeys.
-/
import Derived.Test.YtjggdpnamakoeaaGreatOWP44
set_option linter.unusedVariables false
set_option linter.unusedSimpArgs false
set_option linter.unusedSectionVars false
/-
  The contracts of maps.Keys and its iterator, slices.AppendSeq, Collect and SortedFunc at handles.
-/
namespace Go.Proofs.YtjggdpnamakoeaaGreat
open Go.RowKit
attribute [local go_sem] Oper.semAt_some

theorem mkeys_any (b : Nat) (w : World) : Calls Tryz.prog 75 #[.map (some b)] w fun e w' =>
    e = .returned (.func (.func 106) #[] #[.pointer (some ⟨w.heap.size, 0, none⟩)]) ∧ w' = w.alloc (.cells #[.map (some b)] 147) := by
  go_enter Tryz.func75, Tryz.ntmps75
  go_wp2_with fail
  go_ret
  exact ⟨rfl, rfl⟩
theorem keys_perm {m left : List RowD} {pre : List Hd} {x : Hd} {v : List Int} (hn : (mkeys left).Nodup) (hx : (x, v) ∈ left) (hp : (pre ++ mkeys left).Perm (mkeys m)) : ((pre ++ [x]) ++ mkeys (mdel left x)).Perm (mkeys m) := by
  refine List.Perm.trans ?_ hp
  rw [List.append_assoc]
  exact List.Perm.append_left _ ((mdel_perm hn hx).map (fun p : RowD => p.1)).symm

set_option maxHeartbeats 4000000 in
set_option maxRecDepth 100000 in
theorem keys_stops (n : Nat) (hn : 1 ≤ n) (kb b : Nat) (m : List RowD) (w : World) (hB : Blk w kb 147 #[.map (some b)]) (hM : MapAt hdV bV (fun _ => True) w b m) :
    SeqStopsK Fence.wide n Tryz.prog 106 #[.pointer (some ⟨kb, 0, none⟩)] (fun x : Hd => #[hdV x]) KeepsWalks (fun ys => ys.Perm (mkeys m)) (fun _ => True) m.length w := fun l J Jx W hW hJ hJx hY h0 => by
  have HJ := Lib.hid hJ
  have HY := Lib.hid hY
  have HJ0 := Lib.hid h0
  have hM1 := hM.after hW
  have k0 : W.cell? ⟨kb, 0, none⟩ = some (.map (some b)) := (hB.after hW).cell 0
  have HND : Hid ((mkeys m).Nodup) := hM.nodup keyHd
  clear hJ hY hW hJx h0 hB
  refine callsIn_of_wp Tryz.func106 rfl trivial ?_ rfl
  simp only [Tryz.ntmps106, List.size_toArray, List.length_cons, List.length_nil, Nat.reduceAdd, Nat.reduceSub, Array.replicate_succ, Array.replicate_zero, List.push_toArray, List.append_toArray, List.nil_append, List.cons_append]
  gi_wp2_with (first
    | (gi_at_range; refine wpListIn_rangeOver rfl _ 147 39 rfl Tryz.underlying147 b _ rfl hM1 ?_; intro w2 hr2 hb2 hs2)
    | gi_in)
  have HR2 := Lib.hid hr2
  have HJ2 : Hid (J [] w2) := HJ.out [] W w2 none HJ0.out (grown_of_below hb2) (fun r e => by cases e)
  have HLE : Hid (W.heap.size ≤ W.heap.size) := Nat.le_refl _
  generalize hri : W.heap.size = ri at *
  clear hr2 hb2 hs2 hM1 k0 hM HJ0
  gi_loopw [6] (fun _ wr => ∃ (left : List RowD) (pre : List Hd), (mkeys left).Nodup ∧ (pre ++ mkeys left).Perm (mkeys m) ∧ RangeAt hdV bV (fun _ => True) wr b ri m left ∧ J pre wr) (fun _ wr => wr.rangeLeft b ri)
  case atStart => exact ⟨m, [], HND.out, by simp, HR2.out, HJ2.out⟩
  case round =>
    clear HJ2 HR2
    obtain ⟨left, pre, hnd, hp, hr, hJp⟩ := hrel
    have HND := Lib.hid hnd
    have HP := Lib.hid hp
    have HR := Lib.hid hr
    have HJP := Lib.hid hJp
    clear hnd hp hr hJp
    gi_wp2_with (first
      | (gi_at_next; refine wpListIn_nextOf keyHd rfl _ rfl b ri _ left rfl HR.out ?_ ?_)
      | gi_in)
    · intro hl0
      subst hl0
      gi_wp2
      go_end0
      exact ⟨⟨_, rfl⟩, .inl ⟨pre, by have := HP.out; simpa [mkeys] using this, HJP.out⟩⟩
    · intro x1 x2 bb w7 hx hr7 ho7 hs7 hlt7 hen
      have HR7 := Lib.hid hr7
      have HLEN := Lib.hid hlt7
      have HST := Lib.hid (keys_perm HND.out hx HP.out)
      have HND2 : Hid ((mkeys (mdel left (x1, x2))).Nodup) := mdel_nodup HND.out _
      have HPL : Hid (pre.length < m.length) := by
        have := HST.out.length_eq
        simp [mkeys] at this
        unfold Hid; omega
      have HJ7 : Hid (J pre w7) := HJ.out pre wr w7 (some ri) HJP.out ho7.one_grown (fun r e => by cases e; exact ⟨HLE.out, HR.out.walk⟩)
      have hb8 := below_new_put w7 41 [0, 0] [x1, x2]
      have HR8 : Hid (RangeAt hdV bV (fun _ => True) (putRow (w7.alloc (.cells #[.int .i64 0, .int .i64 0] 41)) w7.heap.size 0 [x1, x2]) b ri m (mdel left (x1, x2))) := hr7.after hb8
      have k1 : row? (putRow (w7.alloc (.cells #[.int .i64 0, .int .i64 0] 41)) w7.heap.size 0 [x1, x2]) w7.heap.size 0 2 = some #[.int .i64 x1, .int .i64 x2] := (blk_new_put w7 41 [0, 0] [x1, x2] rfl).row_all (xs := [x1, x2]) rfl
      have f1 : fits (w7.alloc (.cells #[.int .i64 0, .int .i64 0] 41)) w7.heap.size 0 2 = true := (Blk.new w7 41 (ints [0, 0])).fits 0 2 (by rw [ints_size]; simp)
      obtain ⟨fn, tmps, assign, body, hy, hR⟩ := HY.out pre (x1, x2) (putRow (w7.alloc (.cells #[.int .i64 0, .int .i64 0] 41)) w7.heap.size 0 [x1, x2]) (HJ.out pre w7 _ none HJ7.out (grown_of_below hb8) (fun r e => by cases e)) HPL.out
      simp only [hdV_eq] at hy
      have HRR := Lib.hid hR
      clear hr7 ho7 hs7 hlt7 hx hb8 hR HR7
      gi_wp2
      refine HRR.out.mono ?_
      rintro e W3 (⟨rfl, hJ3, hk3⟩ | ⟨rfl, hJx3⟩)
      · have HJ3 := Lib.hid hJ3
        have HR3 := Lib.hid (HR8.out.walks hk3)
        clear hJ3 hk3 hy k1 f1
        gi_wp2
        go_roundw
        case rel => exact ⟨mdel left (x1, x2), pre ++ [(x1, x2)], HND2.out, HST.out, HR3.out, HJ3.out⟩
        case measure => rw [HR3.out.count, HR.out.count]; exact HLEN.out
      · gi_wp2
        refine bodyPost_ret (results_none rfl _ _ _) rfl ?_
        exact ⟨⟨_, rfl⟩, .inr ⟨pre ++ [(x1, x2)], trivial, hJx3⟩⟩

set_option maxHeartbeats 4000000 in
set_option maxRecDepth 100000 in
theorem appendSeq_any (gf : Nat) (lb : Array Value) (eg : ∀ args w, (callFunc gf args).run Tryz.prog w = .ok (.enter gf args) w) (S Sp : List Hd → Prop) (N : Nat) (hN : N ≤ 1099511627776) (w : World)
    (hseq : SeqStopsK Fence.wide 2 Tryz.prog gf lb (fun x : Hd => #[hdV x]) KeepsWalks S Sp N w) :
    Calls Tryz.prog 133 #[.slice none 0 0, .func (.func gf) #[] lb] w fun e w' => ∃ v ys, e = .returned v ∧ S ys ∧ w'.ownsRow w.heap.size 41 2 v ys.length (ys.flatMap hC) ∧ Below w.heap.size w w' := by
  have HSEQ := Lib.hid hseq
  have HEG := Lib.hid eg
  clear hseq eg
  obtain ⟨i0, hi0, hz0, hz1, hz2⟩ := info_parts handle_partsF
  refine (callsIn_wide (n := 3)).1 ?_
  refine callsIn_of_wp_marks Tryz.func133 rfl trivial ?_ rfl
  simp only [Tryz.ntmps133, List.size_toArray, List.length_cons, List.length_nil, Nat.reduceAdd, Nat.reduceSub, Array.replicate_succ, Array.replicate_zero, List.push_toArray, List.append_toArray, List.nil_append, List.cons_append]
  rw [wpIn_wide]
  go_wp2_with fail
  have HB0 : Hid (Below w.heap.size w (w.alloc (.cells #[.slice none 0 0] 57))) := (Below.refl _ _).alloc (Nat.le_refl _) _
  have HC0 : Hid (Collects 41 57 2 w w.heap.size 0 [] (w.alloc (.cells #[.slice none 0 0] 57))) := ⟨⟨_, Blk.new w _ _, World.ownsRow_nil _ _ _ _⟩, HB0.out⟩
  have HSZ : Hid ((w.alloc (.cells #[.slice none 0 0] 57)).heap.size = w.heap.size + 1) := by simp [Hid]
  generalize (w.alloc (.cells #[.slice none 0 0] 57)) = W0 at *
  refine (wpIn_wide (n := 3)).1 ?_
  refine wpIn_rangeFunc_ownH (F := Fence.wide) (n := 3) rfl (by decide) (gf := gf) (lb := lb) rfl trivial HEG.out
    HSEQ.out walksK_t walksK_b HB0.out (fun _ => rfl)
    (fun pre W => Collects 41 57 2 w w.heap.size pre.length (pre.flatMap hC) W)
    (fun _ _ _ => False)
    (fun s A B row hs hg hr => hs.kept hg fun r e => ⟨by have := (hr r e).1; have := HSZ.out; omega, (hr r e).2⟩)
    (fun c s A B row hs hg hr => hs)
    HC0.out
    (fun x a' W => ∃ xb, Blk W xb 41 (ints (hL x)) ∧ a' = { tmps := #[.slice none 0 0, .func (.func gf) #[] lb, .pointer (some ⟨w.heap.size, 0, none⟩), undef, .slice none 0 0, .pointer (some ⟨xb, 0, none⟩), .func (.func gf) #[] lb, hdV x, undef, undef, undef, undef, undef], defers := [] })
    (fun x a' _ A B row hs hg hr => by
      obtain ⟨xb, h1, h2⟩ := hs
      exact ⟨xb, (grownBy_keeps_cells hg (fun r e => (hr r e).2) h1 rfl).trans h1, h2⟩)
    ?assign ?body ?done ?stop
  case assign =>
    rintro l1 pre ⟨x1, x2⟩ W K hi hK
    gi_wp2
    have hb1 := below_new_put W 41 [0, 0] [x1, x2]
    exact hK _ _ (keepsFrom_of_below hb1) (KeepsWalks.of_grownBy (grown_of_below hb1) (fun _ _ e => by cases e)) (hi.kept (grown_of_below hb1) (fun r e => by cases e)) ⟨W.heap.size, blk_new_put W 41 [0, 0] [x1, x2] rfl, rfl⟩
  case body =>
    rintro l1 pre ⟨x1, x2⟩ a' W hl1 ⟨r, hr⟩ ⟨⟨v, hv1, hv2⟩, hb⟩ ⟨xb, hxb, rfl⟩ hlt
    have k1 : row? W xb 0 2 = some #[.int .i64 x1, .int .i64 x2] := hxb.row_all (xs := [x1, x2]) rfl
    have k2 : W.cell? ⟨w.heap.size, 0, none⟩ = some v := hv1.cell 0
    have HV1 := Lib.hid hv1
    have HV2 := Lib.hid hv2
    have HB := Lib.hid hb
    have hp1 : pre.length + 1 ≤ maxLen := by unfold maxLen; omega
    have hp2 : (pre.length + 1) * 16 ≤ 140737488355328 := by omega
    have hp3 := hb.size
    clear hv1 hv2 hb hxb hr
    gi_wp2_with (first
      | (gi_at_builtin; refine wpListIn_append1_at rfl _ _ 57 rfl w.heap.size 41 i0 _ 2 16 Tryz.underlying57 hi0 hz0 hz1 hz2 rfl (by decide) v pre.length (pre.flatMap hC) rfl HV2.out [.int .i64 x1, .int .i64 x2] rfl rfl (by simp [Value.oneCell']) hp1 hp2 hp3 ?_
         intro v' w9 ho hg hor
         have hv9 : Blk w9 w.heap.size 57 #[v] := by
           have h1 := HV1.out.alloc (.cells [Value.int .i64 x1, .int .i64 x2].toArray 41)
           refine (hg.block w.heap.size h1.lt ?_).trans h1
           exact fun e => ownsRow_other (HV2.out.alloc (.cells [Value.int .i64 x1, .int .i64 x2].toArray 41)) h1 (fun cur e => by injection e with _ e2; exact absurd e2 (by decide)) e.symm
         have HK9 : Hid (KeepsOthers W w9) := (KeepsOthers.alloc W _).trans (KeepsOthers.of_grownBy hg (ownsRow_isCells (HV2.out.alloc _)))
         have HB9 : Hid (Below w.heap.size w w9) := (HB.out.alloc HB.out.size _).grown hg (by have := HB.out.size; simp; omega) (fun k e => (World.ownsRow.lt HV2.out k e).1)
         have HV9 := Lib.hid hv9
         have HO9 := Lib.hid ho
         have k3 := hv9.cell 0
         have k4 := hv9.frozen 0
         clear hg hor hv9 k1 k2
         obtain ⟨g', cap', rfl⟩ := ownsRow_succ ho
         clear ho
         go_frame)
      | gi_in)
    refine ⟨((HK9.out.trans (KeepsOthers.setCell _ _ _)).from _), (HK9.out.trans (KeepsOthers.setCell _ _ _)).walks, ⟨⟨_, HV9.out.set 0 _, ?_⟩, HB9.out.setCell (p := ⟨w.heap.size, 0, none⟩) (Nat.le_refl _) _⟩⟩
    have h5 := HO9.out.kept (grownBy_setCell' w9 w.heap.size (.slice (some ⟨g', 0, none⟩) (pre.length + 1) cap')) (Or.inr (ownsRow_other HO9.out HV9.out (fun cur e => by injection e with _ e2; exact absurd e2 (by decide))))
    rw [List.length_append, List.flatMap_append]
    exact h5
  case done =>
    rintro D ys W hD hS ⟨⟨v, hv1, hv2⟩, hb⟩ hK
    have k2 : W.cell? ⟨w.heap.size, 0, none⟩ = some v := hv1.cell 0
    have HV2 := Lib.hid hv2
    have HB := Lib.hid hb
    have HS := Lib.hid hS
    have HK := Lib.hid hK
    have HD : Hid (w.heap.size ≤ D) := by have := HSZ.out; unfold Hid; omega
    clear hv1 hv2 hb hS hK hD
    go_wp2_with fail
    refine ⟨by simp, .inl ⟨_, _, rfl, run_takeDeferred HK.out, ?_⟩⟩
    refine leaves_tmp (p := 4) (v := v) rfl rfl ?_
    exact ⟨v, ys, rfl, HS.out, ownsRow_putObj HV2.out _ HK.out rfl, belowPutObj HB.out HD.out _⟩
  case stop =>
    rintro D c pre W hD hpre hF hK
    exact hF.elim

set_option maxRecDepth 100000 in
theorem collect_any (gf : Nat) (lb : Array Value) (eg : ∀ args w, (callFunc gf args).run Tryz.prog w = .ok (.enter gf args) w) (S Sp : List Hd → Prop) (N : Nat) (hN : N ≤ 1099511627776) (w : World)
    (hseq : SeqStopsK Fence.wide 2 Tryz.prog gf lb (fun x : Hd => #[hdV x]) KeepsWalks S Sp N w) :
    Calls Tryz.prog 104 #[.func (.func gf) #[] lb] w fun e w' => ∃ v ys, e = .returned v ∧ S ys ∧ w'.ownsRow w.heap.size 41 2 v ys.length (ys.flatMap hC) ∧ Below w.heap.size w w' := by
  have HC := Lib.hid (appendSeq_any gf lb eg S Sp N hN w hseq)
  clear hseq eg
  go_enter Tryz.func104, Tryz.ntmps104
  go_wp2_with fail
  refine HC.out.mono ?_
  rintro e w' ⟨v, ys, rfl, h1, h2, h3⟩
  have H1 := Lib.hid h1
  have H2 := Lib.hid h2
  have H3 := Lib.hid h3
  clear h1 h2 h3 HC
  go_wp2_with fail
  go_ret
  exact ⟨v, ys, rfl, H1.out, H2.out, H3.out⟩
set_option maxRecDepth 100000 in
theorem sortedKeys_any {w : World} {kb b : Nat} {m : List RowD} (hB : Blk w kb 147 #[.map (some b)]) (hM : MapAt hdV bV (fun _ => True) w b m) (hl : m.length ≤ 1099511627776) :
    Calls Tryz.prog 74 #[.func (.func 106) #[] #[.pointer (some ⟨kb, 0, none⟩)], .func (.func 60) #[] #[]] w fun e w' => ∃ v, e = .returned v ∧ In (fun _ => False) w [RowH v (sortedKeys m)] w' := by
  have HC := Lib.hid (collect_any 106 #[.pointer (some ⟨kb, 0, none⟩)] (enters_of Tryz.func106 (by kernel_rfl) rfl) _ _ m.length hl w (keys_stops 2 (by decide) kb b m w hB hM))
  clear hB hM
  go_enter Tryz.func74, Tryz.ntmps74
  go_wp2_with fail
  refine HC.out.mono ?_
  rintro e w' ⟨v, ys, rfl, h1, h2, h3⟩
  have hyl : ys.length ≤ 1099511627776 := by
    have := h1.length_eq
    unfold mkeys at this
    rw [List.length_map] at this
    omega
  have HS : Hid (ys.mergeSort hLe = sortedKeys m) := sort_perm h1
  have HI : Hid (In (fun _ => False) w [RowH v ys] w') := (In.nil w _).new (A := RowH v ys) h3 ⟨own_base h2, fun k hk => (World.ownsRow.lt h2 k hk).1⟩
  clear h1 h2 h3 HC
  go_wp2_with fail
  refine (sortH_in HI.out hyl).mono ?_
  rintro e w3 ⟨rfl, hI3⟩
  rw [HS.out] at hI3
  have HI3 := Lib.hid hI3
  clear hI3 HI
  go_wp2_with fail
  go_ret
  exact ⟨v, rfl, HI3.out⟩

end Go.Proofs.YtjggdpnamakoeaaGreat
