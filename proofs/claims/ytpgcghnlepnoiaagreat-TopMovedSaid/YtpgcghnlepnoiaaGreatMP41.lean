/-
  Several texts in one (merged by a program of mine): FamAdopt.
-/
import Derived.Test.YtpgcghnlepnoiaaGreatMP40
set_option linter.unusedVariables false
set_option linter.unusedSimpArgs false
set_option linter.unusedSectionVars false
/-
  The contract of family.Adopt.
-/
namespace Go.Proofs.YtpgcghnlepnoiaaGreat
open Go.RowKit
attribute [local go_sem] Oper.semAt_some

theorem setCell_below {B : Nat} {A W : World} (h : Below B A W) (g o : Nat) (v : Value) : Below B (A.setCell ⟨g, o, none⟩ v) (W.setCell ⟨g, o, none⟩ v) := by
  refine ⟨h.os, h.tape, h.output, by simpa [World.setCell] using h.size, fun k hk => ?_⟩
  show (W.heap.modify g _)[k]? = (A.heap.modify g _)[k]?
  rw [Array.getElem?_modify, Array.getElem?_modify, h.block k hk]
theorem Only.setBoth {F : Nat → Prop} {A W : World} (h : Only F A W) (g o : Nat) (v : Value) : Only F (A.setCell ⟨g, o, none⟩ v) (W.setCell ⟨g, o, none⟩ v) := by
  refine ⟨h.os, h.tape, h.output, by simpa [World.setCell] using h.size, fun k hk hf => ?_⟩
  show (W.heap.modify g _)[k]? = (A.heap.modify g _)[k]?
  rw [Array.getElem?_modify, Array.getElem?_modify, h.block k (by simpa [World.setCell] using hk) hf]
theorem Only.putObj {F : Nat → Prop} {A W : World} (h : Only F A W) {D : Nat} (hD : A.heap.size ≤ D) (o : Obj) : Only F A (W.putObj D o) :=
  ⟨h.os, h.tape, h.output, by simpa using h.size, fun k hk hf => (World.putObj_heap_other (by omega)).trans (h.block k hk hf)⟩
theorem belowPutObj {B : Nat} {A W : World} (h : Below B A W) {D : Nat} (hD : B ≤ D) (o : Obj) : Below B A (W.putObj D o) :=
  ⟨h.os, h.tape, h.output, by simpa using h.size, fun k hk => (World.putObj_heap_other (by omega)).trans (h.block k hk)⟩
theorem keepsFrom_of_below {B : Nat} {A W : World} (h : Below A.heap.size A W) : KeepsFrom B A W := ⟨h.size, fun k o _ hk _ => (h.block k (Array.getElem?_eq_some_iff.1 hk).1).trans hk⟩
theorem cell_int_run {P : Program} {w : World} {g : Nat} {ty : TypeId} {x : Int} (ha : ∀ w, (isAgg ty).run P w = .ok false w) (hc : w.cell? ⟨g, 0, none⟩ = some (.int .i64 x)) :
    ((asAddr (.pointer (some ⟨g, 0, none⟩))).run P w).andThen (fun a w' => (loadVar ty a).run P w') = .ok (.int .i64 x) w := by
  simp [asAddr, go_sem, ha, hc]
/-- a function's result that lies in a cell -/
theorem leaves_cell {P : Program} {fn : Func} {R : Ending → World → Prop} {p : Tmp} {ty : TypeId} {tmps : Array Value} {w : World} (h : fn.results = #[.cell p ty]) {g : Nat} {x : Int} (hp : tmps.getD p undef = .pointer (some ⟨g, 0, none⟩)) (hu : ∀ w, (isAgg ty).run P w = .ok false w)
    (hc : w.cell? ⟨g, 0, none⟩ = some (.int .i64 x)) (hR : R (.returned (.int .i64 x)) w) : LeavesInM Fence.wide 3 P fn tmps R [] .returning w := by
  refine ⟨.int .i64 x, ?_, hR⟩
  have hp' : tmps[p]?.getD undef = .pointer (some ⟨g, 0, none⟩) := by simpa using hp
  simp [results, h, hp']
  exact cell_int_run hu hc

set_option maxHeartbeats 4000000 in
set_option maxRecDepth 100000 in
theorem fadopt_in {G : Nat → Prop} {w0 w : World} {l : List Assn} {p : Nat} {m : Fam} (h : In G w0 (FamA p m :: l) w) (c q : Hd) :
    Calls Tryz.prog 16 #[.pointer (some ⟨p, 0, none⟩), hdV c, hdV q] w fun e w' => e = .returned (.int .i64 (adoptR m c q).2) ∧ In G w0 (FamA p (adoptR m c q).1 :: l) w' := by
  obtain ⟨hm, b, hI⟩ := h.openFam
  have HM := Lib.hid hm
  have HI0 := Lib.hid hI
  clear h hm hI
  obtain ⟨xs, hc⟩ := Chain.exists HM.out.acyc q
  have HC := Lib.hid hc
  clear hc
  obtain ⟨c1, c2⟩ := c
  obtain ⟨q1, q2⟩ := q
  rw [hdV_eq, hdV_eq]
  have heq : ∀ (x y : List Int) W, x.length = 2 → y.length = 2 → (binOp .eql 30 (.agg (ints x)) (.agg (ints y))).run Tryz.prog W = .ok (.bool (decide (x = y))) W := fun x y W h1 h2 => eql_handle x y h1 h2 W
  have HEQ := Lib.hid heq
  clear heq
  refine (callsIn_wide (n := 3)).1 ?_
  refine callsIn_of_wp_marks Tryz.func16 rfl trivial ?_ rfl
  simp only [Tryz.ntmps16, List.size_toArray, List.length_cons, List.length_nil, Nat.reduceAdd, Nat.reduceSub, Array.replicate_succ, Array.replicate_zero, List.push_toArray, List.append_toArray, List.nil_append, List.cons_append]
  rw [wpIn_wide]
  go_upto_region 1 with (fail)
  refine wp_abs (In G w0 (Box (w.heap.size + 1 + 1) 31 #[.int .i64 0] :: Box (w.heap.size + 1) 30 (ints [q1, q2]) :: Box w.heap.size 30 (ints [c1, c2]) :: Box p 100 #[.map (some b)] :: FMap b m :: l)) (by
    have := ((HI0.out.alloc 30 (ints [c1, c2])).alloc 30 (ints [q1, q2])).alloc 31 #[.int .i64 0]
    simp only [World.size_alloc] at this
    exact this) ?_
  generalize w.heap.size + 1 + 1 = rb
  generalize w.heap.size + 1 = qb
  generalize w.heap.size = cb
  intro w1 hI
  have k1 : row? w1 cb 0 2 = some (ints [c1, c2]) := hI.third.blk.row_all rfl
  have k2 : row? w1 qb 0 2 = some (ints [q1, q2]) := hI.swap.blk.row_all rfl
  have k3 : w1.cell? ⟨rb, 0, none⟩ = some (.int .i64 0) := hI.blk.cell 0
  have k4 : w1.frozen? ⟨rb, 0, none⟩ = false := hI.blk.frozen 0
  have hn := fun W => HEQ.out [c1, c2] [q1, q2] W rfl rfl
  have HI := Lib.hid hI
  clear hI HI0
  by_cases e : (c1, c2) = (q1, q2)
  · have hd : decide ([c1, c2] = [q1, q2]) = true := by rw [decide_eq_true_eq]; injection e with e1 e2; rw [e1, e2]
    rw [hd] at hn
    have HA : Hid (adoptR m (c1, c2) (q1, q2) = (m, 8)) := by unfold Hid adoptR; rw [if_pos (Or.inl e)]
    clear hd e
    go_wp2_with fail
    have HI2 := HI.out.set 0 (.int .i64 8)
    refine leaves_cell (p := 6) (ty := 31) rfl (g := rb) (x := 8) rfl Tryz.isAgg31 (HI2.blk.cell 0) ?_
    rw [HA.out]
    exact ⟨rfl, In.shutFam HM.out HI2.drop.drop.drop⟩
  · have hd : decide ([c1, c2] = [q1, q2]) = false := by
      rw [decide_eq_false_iff_not]
      intro e'
      injection e' with e1 e2
      injection e2 with e2 _
      exact e (by rw [e1, e2])
    rw [hd] at hn
    have HNE := Lib.hid e
    clear hd e
    go_wp2_with fail
    refine (above_any p (q1, q2) w1).mono ?_
    rintro e w2 ⟨rfl, rfl⟩
    go_wp2_with fail
    have hb0 : Below w1.heap.size w1 ((w1.alloc (.cells #[.pointer (some ⟨p, 0, none⟩)] 40)).alloc (.cells (ints (hL (q1, q2))) 30)) := ((Below.refl _ _).alloc (Nat.le_refl _) _).alloc (by simp) _
    have hF := (Blk.new w1 40 #[.pointer (some ⟨p, 0, none⟩)]).alloc (.cells (ints (hL (q1, q2))) 30)
    have hH := Blk.new (w1.alloc (.cells #[.pointer (some ⟨p, 0, none⟩)] 40)) 30 (ints (hL (q1, q2)))
    rw [World.size_alloc] at hH
    have HI2 := Lib.hid (HI.out.below hb0)
    generalize ((w1.alloc (.cells #[.pointer (some ⟨p, 0, none⟩)] 40)).alloc (.cells (ints (hL (q1, q2))) 30)) = W0 at *
    generalize w1.heap.size + 1 = hb at *
    generalize w1.heap.size = fb at *
    have hS : FamSee W0 p b m := ⟨HM.out, HI2.out.fourth.blk, (HI2.out.fifth).mapAt⟩
    clear hb0 k1 k2 k3 k4 HI
    refine (wpIn_wide (n := 3)).1 ?_
    refine wpIn_rangeFunc_ownH (F := Fence.wide) (n := 3) rfl (by decide) (gf := 64) (lb := #[.pointer (some ⟨fb, 0, none⟩), .pointer (some ⟨hb, 0, none⟩)]) rfl trivial (enters_of Tryz.func64 (by kernel_rfl) rfl)
      (above_stops 2 (by decide) fb hb p b m (q1, q2) xs HC.out W0 hF hH hS) keepsData_t keepsData_b (Below.refl _ _) (fun _ => rfl)
      (fun pre W => (∀ x ∈ pre, x ≠ (c1, c2)) ∧ Below W0.heap.size W0 W)
      (fun c pre W => c = .ret ∧ (c1, c2) ∈ pre ∧ Below W0.heap.size (W0.setCell ⟨rb, 0, none⟩ (.int .i64 8)) W)
      (fun s A B row hs hg hr => ⟨hs.1, hs.2.grown hg hs.2.size fun k hk => (hr k hk).1⟩)
      (fun c s A B row hs hg hr => ⟨hs.1, hs.2.1, hs.2.2.grown hg (by have := hs.2.2.size; simpa [World.setCell] using this) fun k hk => (hr k hk).1⟩)
      ⟨by simp, Below.refl _ _⟩
      (fun x a' W => ∃ xb, Blk W xb 30 (ints (hL x)) ∧ a' = { tmps := #[.pointer (some ⟨p, 0, none⟩), .agg #[.int .i64 c1, .int .i64 c2], .agg #[.int .i64 q1, .int .i64 q2], undef, .pointer (some ⟨cb, 0, none⟩), .pointer (some ⟨qb, 0, none⟩), .pointer (some ⟨rb, 0, none⟩), .pointer (some ⟨xb, 0, none⟩), .agg (ints [c1, c2]), .agg (ints [q1, q2]), .bool false, .pointer (some ⟨p, 0, none⟩), .agg (ints [q1, q2]),
        .func (.func 64) #[] #[.pointer (some ⟨fb, 0, none⟩), .pointer (some ⟨hb, 0, none⟩)], hdV x, undef, undef, undef, undef, undef, undef, undef, undef, undef], defers := [] })
      (fun x a' _ A B row hs hg hr => by
        obtain ⟨xb, h1, h2⟩ := hs
        exact ⟨xb, (grownBy_keeps_cells hg (fun r e => (hr r e).2) h1 rfl).trans h1, h2⟩)
      ?assign ?body ?done ?stop
    case assign =>
      rintro l1 pre ⟨x1, x2⟩ W K hi hK
      gi_wp2
      have hb1 := below_new_put W 30 [0, 0] [x1, x2]
      exact hK _ _ (keepsFrom_of_below hb1) (KeepsData.of_below hb1) ⟨hi.1, hi.2.trans (hb1.mono hi.2.size)⟩ ⟨W.heap.size, blk_new_put W 30 [0, 0] [x1, x2] rfl, rfl⟩
    case body =>
      rintro l1 pre ⟨x1, x2⟩ a' W hl1 ⟨r, hr⟩ ⟨hno, hbW⟩ ⟨xb, hxb, rfl⟩ hlt
      have HIW := HI2.out.below hbW
      have k1 : row? W xb 0 2 = some (ints [x1, x2]) := hxb.row_all rfl
      have k2 : row? W cb 0 2 = some (ints [c1, c2]) := HIW.third.blk.row_all rfl
      have k3 : W.cell? ⟨rb, 0, none⟩ = some (.int .i64 0) := HIW.blk.cell 0
      have k4 : W.frozen? ⟨rb, 0, none⟩ = false := HIW.blk.frozen 0
      have hn := fun W => HEQ.out [x1, x2] [c1, c2] W rfl rfl
      have HNO := Lib.hid hno
      have HBW := Lib.hid hbW
      have HSZ : Hid (rb < W0.heap.size) := HI2.out.blk.lt
      clear hno hbW HIW hxb
      by_cases e : (x1, x2) = (c1, c2)
      · have hd : decide ([x1, x2] = [c1, c2]) = true := by rw [decide_eq_true_eq]; injection e with e1 e2; rw [e1, e2]
        rw [hd] at hn
        have HE := Lib.hid e
        clear hd e
        gi_wp2
        exact ⟨(KeepsOthers.setCell _ _ _).from _, rfl, by rw [HE.out]; simp, setCell_below HBW.out _ _ _⟩
      · have hd : decide ([x1, x2] = [c1, c2]) = false := by
          rw [decide_eq_false_iff_not]
          intro e'
          injection e' with e1 e2
          injection e2 with e2 _
          exact e (by rw [e1, e2])
        rw [hd] at hn
        have HE := Lib.hid e
        clear hd e
        gi_wp2
        exact ⟨KeepsFrom.refl _ _, KeepsData.refl _, fun y hy => by rcases List.mem_append.1 hy with hy | hy; exact HNO.out y hy; rw [List.mem_singleton.1 hy]; exact HE.out, HBW.out⟩
    case done =>
      rintro D ys W hD rfl ⟨hno, hbW⟩ hK
      have HA : Hid (adoptR m (c1, c2) (q1, q2) = (mput m (c1, c2) (q1, q2), 0)) := by
        unfold Hid adoptR
        rw [if_neg]
        rintro (e | e)
        · exact HNE.out e
        · exact hno _ (HC.out.mem.2 e) rfl
      have HIW := HI2.out.below hbW
      have k1 : row? W cb 0 2 = some (ints [c1, c2]) := HIW.third.blk.row_all rfl
      have k2 : row? W qb 0 2 = some (ints [q1, q2]) := HIW.swap.blk.row_all rfl
      have k3 : W.cell? ⟨p, 0, none⟩ = some (.map (some b)) := HIW.fourth.blk.cell 0
      have HBW := Lib.hid hbW
      have HD := Lib.hid hD
      have HK := Lib.hid hK
      have HM2 : Hid (MapAt hdV hdV (fun _ => True) W b m) := HIW.fifth.mapAt
      clear hno hbW hD hK HIW hS hF hH
      go_wp2_with fail
      go_still_tail 6, (by kernel_rfl)
      change wpList _ _ _ _ _ W.drew
      have HM3 : Hid (MapAt hdV hdV (fun _ => True) W.drew b m) := HM2.out
      have HBW3 : Hid (Below W0.heap.size W0 W.drew) := HBW.out.drew
      have HK3 : Hid (W.drew.heap[D]? = some (.deferred (some []))) := HK.out
      clear HM2 HBW HK k1 k2 k3
      generalize W.drew = W2 at *
      go_wp2_with (at_mapUpdate; go_loud (refine wpList_store keyHd rfl _ _ _ 98 30 rfl Tryz.underlying98 b m rfl HM3.out (c1, c2) rfl trivial (q1, q2) rfl ?_))
      intro W3 h1 h2 h3
      have HO : Hid (Only (· = b) W0 W3) := (Only.of_below HBW3.out).trans h2
      have hK4 : W3.heap[D]? = some (.deferred (some [])) := by
        have hlt := (Array.getElem?_eq_some_iff.1 HK3.out).1
        refine (h2.block D hlt ?_).trans HK3.out
        intro e
        obtain ⟨es, clock, hb', _⟩ := HM3.out
        rw [← e, HK3.out] at hb'
        cases hb'
      have HMP := Lib.hid h1
      have hne : rb ≠ b := fun e => by
        obtain ⟨es, clock, hb', _⟩ := (HI2.out.fifth).mapAt
        have := HI2.out.blk
        rw [e] at this
        unfold Blk at this
        rw [this] at hb'
        cases hb'
      have hrb : Blk W3 rb 31 #[.int .i64 0] := HO.out.blk HI2.out.blk hne
      have HRB := Lib.hid hrb
      have k5 : W3.cell? ⟨rb, 0, none⟩ = some (.int .i64 0) := hrb.cell 0
      have k6 : W3.frozen? ⟨rb, 0, none⟩ = false := hrb.frozen 0
      have HK4 := Lib.hid hK4
      clear h1 h2 h3 HM3 HBW3 HK3 hK4 hne hrb
      go_wp2_with fail
      have hKD : (W3.setCell ⟨rb, 0, none⟩ (.int .i64 0)).heap[D]? = some (.deferred (some [])) := by
        rw [Below.heap_setCell _ _ _ _ (by
          intro e
          have h1 := HRB.out
          unfold Blk at h1
          simp only at e
          rw [← e, HK4.out] at h1
          cases h1)]
        exact HK4.out
      have HI3 := HI2.out.set 0 (.int .i64 0)
      have hO2 : Only (· = b) (W0.setCell ⟨rb, 0, none⟩ (.int .i64 0)) ((W3.setCell ⟨rb, 0, none⟩ (.int .i64 0)).putObj D (.deferred none)) := (HO.out.setBoth rb 0 (.int .i64 0)).putObj (by simpa [World.setCell] using HD.out) _
      have hlb : b < W0.heap.size := ((HI2.out.fifth).mapAt).lt
      have hM4 : MapAt hdV hdV (fun _ => True) ((W3.setCell ⟨rb, 0, none⟩ (.int .i64 0)).putObj D (.deferred none)) b (mput m (c1, c2) (q1, q2)) := by
        refine HMP.out.block ?_
        rw [World.putObj_heap_other (by have := HD.out; omega), Below.heap_setCell]
        intro e
        obtain ⟨es, clock, hb', _⟩ := HMP.out
        have h1 := HRB.out
        unfold Blk at h1
        simp only at e
        rw [← e, hb'] at h1
        cases h1
      have HI4 := In.mapped HI3.fifth hM4 hO2
      refine ⟨by simp, .inl ⟨D, _, rfl, run_takeDeferred hKD, ?_⟩⟩
      refine leaves_cell (p := 6) (ty := 31) rfl (g := rb) (x := 0) rfl Tryz.isAgg31 (HI4.swap.blk.cell 0) ?_
      rw [HA.out]
      have hok := HM.out.adopt (c1, c2) (q1, q2)
      rw [HA.out] at hok
      exact ⟨rfl, In.shutFam hok (HI4.swap.drop.swap.drop.swap.drop.swap)⟩
    case stop =>
      rintro D c pre W hD hpre ⟨rfl, hmem, hbW⟩ hK
      have HA : Hid (adoptR m (c1, c2) (q1, q2) = (m, 8)) := by
        unfold Hid adoptR
        rw [if_pos (Or.inr (HC.out.mem.1 (hpre.subset hmem)))]
      have HI3 := HI2.out.set 0 (.int .i64 8)
      have HI4 := HI3.below ((belowPutObj hbW (D := D) (by simpa [World.setCell] using hD) (.deferred none)).mono (by simp [World.setCell]))
      gi_wp2
      refine ⟨by simp, .inl ⟨D, _, rfl, run_takeDeferred hK, ?_⟩⟩
      refine leaves_cell (p := 6) (ty := 31) rfl (g := rb) (x := 8) rfl Tryz.isAgg31 (HI4.blk.cell 0) ?_
      rw [HA.out]
      exact ⟨rfl, In.shutFam HM.out HI4.drop.drop.drop⟩

end Go.Proofs.YtpgcghnlepnoiaaGreat
