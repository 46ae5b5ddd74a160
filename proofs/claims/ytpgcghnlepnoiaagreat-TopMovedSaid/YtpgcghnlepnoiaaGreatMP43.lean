/-
  Several texts in one (merged by a program of mine): WorldKeys.
-/
import Derived.Test.YtpgcghnlepnoiaaGreatMP42
set_option linter.unusedVariables false
set_option linter.unusedSimpArgs false
set_option linter.unusedSectionVars false
/-
  The contracts of maps.Keys at a map of tables, its iterator, slices.AppendSeq and Collect at ints.
-/
namespace Go.Proofs.YtpgcghnlepnoiaaGreat
open Go.RowKit
attribute [local go_sem] Oper.semAt_some

theorem grownW {A B : World} (h : Below A.heap.size A B) : A.grownBy B none := ⟨h.os, h.tape, h.output, h.size, fun k hk _ => h.block k hk⟩

theorem belowPutW {B : Nat} {A W : World} (h : Below B A W) {D : Nat} (hD : B ≤ D) (o : Obj) : Below B A (W.putObj D o) :=
  ⟨h.os, h.tape, h.output, by simpa using h.size, fun k hk => (World.putObj_heap_other (by omega)).trans (h.block k hk)⟩
theorem tkeys_any (b : Nat) (w : World) : Calls Tryz.prog 77 #[.map (some b)] w fun e w' =>
    e = .returned (.func (.func 97) #[] #[.pointer (some ⟨w.heap.size, 0, none⟩)]) ∧ w' = w.alloc (.cells #[.map (some b)] 69) := by
  go_enter Tryz.func77, Tryz.ntmps77
  go_wp2_with fail
  go_ret
  exact ⟨rfl, rfl⟩
theorem keysI_perm {m left : List (Int × Nat)} {pre : List Int} {x : Int} {v : Nat} (hn : (mkeys left).Nodup) (hx : (x, v) ∈ left) (hp : (pre ++ mkeys left).Perm (mkeys m)) : ((pre ++ [x]) ++ mkeys (mdel left x)).Perm (mkeys m) := by
  refine List.Perm.trans ?_ hp
  rw [List.append_assoc]
  exact List.Perm.append_left _ ((mdel_perm hn hx).map (fun p : Int × Nat => p.1)).symm

set_option maxHeartbeats 4000000 in
set_option maxRecDepth 100000 in
theorem tkeys_stops (n : Nat) (hn : 1 ≤ n) (kb b : Nat) (m : List (Int × Nat)) (w : World) (hB : Blk w kb 69 #[.map (some b)]) (hM : MapAt (Value.int .i64) ptrV goodI w b m) :
    SeqStopsK Fence.wide n Tryz.prog 97 #[.pointer (some ⟨kb, 0, none⟩)] (fun x : Int => #[.int .i64 x]) KeepsWalks (fun ys => ys.Perm (mkeys m)) (fun _ => True) m.length w := fun l J Jx W hW hJ hJx hY h0 => by
  have HJ := Lib.hid hJ
  have HY := Lib.hid hY
  have HJ0 := Lib.hid h0
  have hM1 := hM.after hW
  have k0 : W.cell? ⟨kb, 0, none⟩ = some (.map (some b)) := (hB.after hW).cell 0
  have HND : Hid ((mkeys m).Nodup) := hM.nodup keyI
  clear hJ hY hW hJx h0 hB
  refine callsIn_of_wp Tryz.func97 rfl trivial ?_ rfl
  simp only [Tryz.ntmps97, List.size_toArray, List.length_cons, List.length_nil, Nat.reduceAdd, Nat.reduceSub, Array.replicate_succ, Array.replicate_zero, List.push_toArray, List.append_toArray, List.nil_append, List.cons_append]
  gi_wp2_with (first
    | (gi_at_range; refine wpListIn_rangeOver rfl _ 69 76 rfl Tryz.underlying69 b _ rfl hM1 ?_; intro w2 hr2 hb2 hs2)
    | gi_in)
  have HR2 := Lib.hid hr2
  have HJ2 : Hid (J [] w2) := HJ.out [] W w2 none HJ0.out (grownW hb2) (fun r e => by cases e)
  have HLE : Hid (W.heap.size ≤ W.heap.size) := Nat.le_refl _
  generalize hri : W.heap.size = ri at *
  clear hr2 hb2 hs2 hM1 k0 hM HJ0
  gi_loopw [6] (fun _ wr => ∃ (left : List (Int × Nat)) (pre : List Int), (mkeys left).Nodup ∧ (pre ++ mkeys left).Perm (mkeys m) ∧ RangeAt (Value.int .i64) ptrV goodI wr b ri m left ∧ J pre wr) (fun _ wr => wr.rangeLeft b ri)
  case atStart => exact ⟨m, [], HND.out, by simp, HR2.out, HJ2.out⟩
  case round =>
    clear HJ2 HR2
    obtain ⟨left, pre, hnd, hp, hr, hJp⟩ := hrel
    have HND := Lib.hid hnd
    have HP := Lib.hid hp
    have HR := Lib.hid hr
    have HJP := Lib.hid hJp
    clear hnd hp hr hJp
    gi_wp2_with (first
      | (gi_at_next; refine wpListIn_nextOf keyI rfl _ rfl b ri _ left rfl HR.out ?_ ?_)
      | gi_in)
    · intro hl0
      subst hl0
      gi_wp2
      go_end0
      exact ⟨⟨_, rfl⟩, .inl ⟨pre, by have := HP.out; simpa [mkeys] using this, HJP.out⟩⟩
    · intro x v w7 hx hr7 ho7 hs7 hlt7 hen
      have HR7 := Lib.hid hr7
      have HLEN := Lib.hid hlt7
      have HST := Lib.hid (keysI_perm HND.out hx HP.out)
      have HND2 : Hid ((mkeys (mdel left x)).Nodup) := mdel_nodup HND.out _
      have HPL : Hid (pre.length < m.length) := by
        have := HST.out.length_eq
        simp [mkeys] at this
        unfold Hid; omega
      have HJ7 : Hid (J pre w7) := HJ.out pre wr w7 (some ri) HJP.out ho7.one_grown (fun r e => by cases e; exact ⟨HLE.out, HR.out.walk⟩)
      obtain ⟨fn, tmps, assign, body, hy, hR⟩ := HY.out pre x w7 HJ7.out HPL.out
      have HRR := Lib.hid hR
      clear hr7 ho7 hs7 hlt7 hx hR
      gi_wp2
      refine HRR.out.mono ?_
      rintro e W3 (⟨rfl, hJ3, hk3⟩ | ⟨rfl, hJx3⟩)
      · have HJ3 := Lib.hid hJ3
        have HR3 := Lib.hid (HR7.out.walks hk3)
        clear hJ3 hk3 hy hen
        gi_wp2
        go_roundw
        case rel => exact ⟨mdel left x, pre ++ [x], HND2.out, HST.out, HR3.out, HJ3.out⟩
        case measure => rw [HR3.out.count, HR.out.count]; exact HLEN.out
      · gi_wp2
        refine bodyPost_ret (results_none rfl _ _ _) rfl ?_
        exact ⟨⟨_, rfl⟩, .inr ⟨pre ++ [x], trivial, hJx3⟩⟩

theorem int_parts2 : (Tryz.prog.info? 3).map (fun i => (i.zero, i.size, i.bytes)) = some (some (.int .i64 0), 1, 8) := by kernel_rfl
set_option maxHeartbeats 4000000 in
set_option maxRecDepth 100000 in
theorem appendSeqI_any (gf : Nat) (lb : Array Value) (eg : ∀ args w, (callFunc gf args).run Tryz.prog w = .ok (.enter gf args) w) (S Sp : List Int → Prop) (N : Nat) (hN : N ≤ 1099511627776) (w : World)
    (hseq : SeqStopsK Fence.wide 2 Tryz.prog gf lb (fun x : Int => #[.int .i64 x]) KeepsWalks S Sp N w) :
    Calls Tryz.prog 96 #[.slice none 0 0, .func (.func gf) #[] lb] w fun e w' => ∃ v, ∃ ys : List Int, e = .returned v ∧ S ys ∧ w'.ownsRow w.heap.size 3 1 v ys.length (ys.map (Value.int .i64)) ∧ Below w.heap.size w w' := by
  have HSEQ := Lib.hid hseq
  have HEG := Lib.hid eg
  clear hseq eg
  obtain ⟨i0, hi0, hz0, hz1, hz2⟩ := info_parts int_parts2
  refine (callsIn_wide (n := 3)).1 ?_
  refine callsIn_of_wp_marks Tryz.func96 rfl trivial ?_ rfl
  simp only [Tryz.ntmps96, List.size_toArray, List.length_cons, List.length_nil, Nat.reduceAdd, Nat.reduceSub, Array.replicate_succ, Array.replicate_zero, List.push_toArray, List.append_toArray, List.nil_append, List.cons_append]
  rw [wpIn_wide]
  go_wp2_with fail
  have HB0 : Hid (Below w.heap.size w (w.alloc (.cells #[.slice none 0 0] 44))) := (Below.refl _ _).alloc (Nat.le_refl _) _
  have HC0 : Hid (Collects 3 44 1 w w.heap.size 0 [] (w.alloc (.cells #[.slice none 0 0] 44))) := ⟨⟨_, Blk.new w _ _, World.ownsRow_nil _ _ _ _⟩, HB0.out⟩
  have HSZ : Hid ((w.alloc (.cells #[.slice none 0 0] 44)).heap.size = w.heap.size + 1) := by simp [Hid]
  generalize (w.alloc (.cells #[.slice none 0 0] 44)) = W0 at *
  refine (wpIn_wide (n := 3)).1 ?_
  refine wpIn_rangeFunc_ownH (F := Fence.wide) (n := 3) rfl (by decide) (gf := gf) (lb := lb) rfl trivial HEG.out
    HSEQ.out walksK_t walksK_b HB0.out (fun _ => rfl)
    (fun pre W => Collects 3 44 1 w w.heap.size pre.length (pre.map (Value.int .i64)) W)
    (fun _ _ _ => False)
    (fun s A B row hs hg hr => hs.kept hg fun r e => ⟨by have := (hr r e).1; have := HSZ.out; omega, (hr r e).2⟩)
    (fun c s A B row hs hg hr => hs)
    HC0.out
    (fun x a' W => a' = { tmps := #[.slice none 0 0, .func (.func gf) #[] lb, .pointer (some ⟨w.heap.size, 0, none⟩), undef, .slice none 0 0, .int .i64 x, .func (.func gf) #[] lb, .int .i64 x, undef, undef, undef, undef, undef], defers := [] })
    (fun x a' _ A B row hs hg hr => hs)
    ?assign ?body ?done ?stop
  case assign =>
    rintro l1 pre x W K hi hK
    gi_wp2
    exact hK _ _ (KeepsFrom.refl _ _) (KeepsWalks.refl _) hi rfl
  case body =>
    rintro l1 pre x a' W hl1 ⟨r, hr⟩ ⟨⟨v, hv1, hv2⟩, hb⟩ rfl hlt
    have k2 : W.cell? ⟨w.heap.size, 0, none⟩ = some v := hv1.cell 0
    have HV1 := Lib.hid hv1
    have HV2 := Lib.hid hv2
    have HB := Lib.hid hb
    have hp1 : pre.length + 1 ≤ maxLen := by unfold maxLen; omega
    have hp2 : (pre.length + 1) * 8 ≤ 140737488355328 := by omega
    have hp3 := hb.size
    clear hv1 hv2 hb hr
    gi_wp2_with (first
      | (gi_at_builtin; refine wpListIn_append1_at rfl _ _ 44 rfl w.heap.size 3 i0 _ 1 8 Tryz.underlying44 hi0 hz0 hz1 hz2 rfl (by decide) v pre.length (pre.map (Value.int .i64)) rfl HV2.out [.int .i64 x] rfl rfl (by simp [Value.oneCell']) hp1 hp2 hp3 ?_
         intro v' w9 ho hg hor
         have hv9 : Blk w9 w.heap.size 44 #[v] := by
           have h1 := HV1.out.alloc (.cells [Value.int .i64 x].toArray 3)
           refine (hg.block w.heap.size h1.lt ?_).trans h1
           exact fun e => ownsRow_other (HV2.out.alloc (.cells [Value.int .i64 x].toArray 3)) h1 (fun cur e => by injection e with _ e2; exact absurd e2 (by decide)) e.symm
         have HK9 : Hid (KeepsOthers W w9) := (KeepsOthers.alloc W _).trans (KeepsOthers.of_grownBy hg (ownsRow_isCells (HV2.out.alloc _)))
         have HB9 : Hid (Below w.heap.size w w9) := (HB.out.alloc HB.out.size _).grown hg (by have := HB.out.size; simp; omega) (fun k e => (World.ownsRow.lt HV2.out k e).1)
         have HV9 := Lib.hid hv9
         have HO9 := Lib.hid ho
         have k3 := hv9.cell 0
         have k4 := hv9.frozen 0
         clear hg hor hv9 k2
         obtain ⟨g', cap', rfl⟩ := ownsRow_succ ho
         clear ho
         go_frame)
      | gi_in)
    refine ⟨((HK9.out.trans (KeepsOthers.setCell _ _ _)).from _), (HK9.out.trans (KeepsOthers.setCell _ _ _)).walks, ⟨⟨_, HV9.out.set 0 _, ?_⟩, HB9.out.setCell (p := ⟨w.heap.size, 0, none⟩) (Nat.le_refl _) _⟩⟩
    have h5 := HO9.out.kept (grownBy_setCell' w9 w.heap.size (.slice (some ⟨g', 0, none⟩) (pre.length + 1) cap')) (Or.inr (ownsRow_other HO9.out HV9.out (fun cur e => by injection e with _ e2; exact absurd e2 (by decide))))
    rw [List.length_append, List.map_append]
    exact h5
  case done =>
    rintro D ys W hD hS ⟨⟨v, hv1, hv2⟩, hb⟩ hK
    have k2 : W.cell? ⟨w.heap.size, 0, none⟩ = some v := hv1.cell 0
    have HV2 := Lib.hid hv2
    have HB := Lib.hid hb
    have HS := Lib.hid hS
    have HK := Lib.hid hK
    have HD : Hid (w.heap.size ≤ D) := by have := HSZ.out; unfold Hid; omega
    clear hv1 hv2 hb hS hK hD
    go_wp2_with fail
    refine ⟨by simp, .inl ⟨_, _, rfl, run_takeDeferred HK.out, ?_⟩⟩
    refine leaves_tmp (p := 4) (v := v) rfl rfl ?_
    exact ⟨v, ys, rfl, HS.out, ownsRow_putObj HV2.out _ HK.out rfl, belowPutW HB.out HD.out _⟩
  case stop =>
    rintro D c pre W hD hpre hF hK
    exact hF.elim

set_option maxRecDepth 100000 in
theorem tkeysCollect_any {w : World} {kb b : Nat} {m : List (Int × Nat)} (hB : Blk w kb 69 #[.map (some b)]) (hM : MapAt (Value.int .i64) ptrV goodI w b m) (hl : m.length ≤ 1099511627776) :
    Calls Tryz.prog 76 #[.func (.func 97) #[] #[.pointer (some ⟨kb, 0, none⟩)]] w fun e w' => ∃ v, ∃ ys : List Int, e = .returned v ∧ ys.Perm (mkeys m) ∧ w'.ownsRow w.heap.size 3 1 v ys.length (ys.map (Value.int .i64)) ∧ Below w.heap.size w w' := by
  have HC := Lib.hid (appendSeqI_any 97 #[.pointer (some ⟨kb, 0, none⟩)] (enters_of Tryz.func97 (by kernel_rfl) rfl) _ _ m.length hl w (tkeys_stops 2 (by decide) kb b m w hB hM))
  clear hB hM
  go_enter Tryz.func76, Tryz.ntmps76
  go_wp2_with fail
  refine HC.out.mono ?_
  rintro e w' ⟨v, ys, rfl, h1, h2, h3⟩
  have H1 := Lib.hid h1
  have H2 := Lib.hid h2
  have H3 := Lib.hid h3
  clear h1 h2 h3 HC
  go_wp2_with fail
  go_ret
  exact ⟨v, ys, rfl, H1.out, H2.out, H3.out⟩

end Go.Proofs.YtpgcghnlepnoiaaGreat
