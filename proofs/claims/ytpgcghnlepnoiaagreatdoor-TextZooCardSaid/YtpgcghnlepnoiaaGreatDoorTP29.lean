/-
  Several texts in one (merged by a program of mine): IterMap, FamAdopt, FamGrow, FamUse, WorldKeys.
-/
import Derived.Test.YtpgcghnlepnoiaaGreatDoorTP28
import Derived.Sort.MapsRangeIn
import Derived.Maps.OwnIn
set_option linter.unusedVariables false
set_option linter.unusedSimpArgs false
set_option linter.unusedSectionVars false
/-
  Ranges over a map under a fence; what the rounds of a range over a function leave.
-/
namespace Go.Proofs.YtpgcghnlepnoiaaGreatDoor
open Go.RowKit

section
variable {κ ν : Type} [DecidableEq κ] {P : Program} {F : Fence} {nF : Nat} {k : TypeId} {ek : κ → Value} {ev : ν → Value} {good : κ → Prop} {w : World}
theorem wpListIn_nextOf (K : KeyOk P k ek good) {ops : Array Oper} {rest : List Oper} {o : Oper} {a : Act} {Q : Exit → Act → World → Prop} (hgd : o.guard = none) (it : Operand) (hop : o.op = Op.next it false)
    (b r : Nat) (m left : List (κ × ν)) (hit : a.eval it = .pointer (some ⟨r, 0, none⟩)) (h : RangeAt ek ev good w b r m left)
    (hDone : left = [] → wpListIn F nF P ops Q rest (a.put o.dst (.tuple #[.bool false])) w)
    (hMore : ∀ x v w', (x, v) ∈ left → RangeAt ek ev good w' b r m (mdel left x) → Only (· = r) w w' → w'.heap.size = w.heap.size → (mdel left x).length < left.length →
      (Instr.entry (.pointer (some ⟨r, 0, none⟩))).run P w' = .ok (.tuple #[ek x, ev v]) w' → wpListIn F nF P ops Q rest (a.put o.dst (.tuple #[.bool true, ek x, ev v])) w') : wpListIn F nF P ops Q (o :: rest) a w := by
  refine wpListIn_plain hgd fun K' hK' => ?_
  unfold Oper.wpIn
  refine ⟨by simp [Oper.about, hop], ?_⟩
  rw [Oper.semAt_plain F _ _ (by rw [hop]; intro c hc'; cases hc')]
  rcases h.step K o.type with ⟨h0, hrun⟩ | ⟨x, v, w', hx, hrun, h1, h2, h3, h4, h5⟩
  · simp [execOp, hop, hit, hrun, Result.andThen]
    exact hK' _ _ (hDone h0)
  · simp [execOp, hop, hit, hrun, Result.andThen]
    exact hK' _ _ (hMore x v w' hx h1 h2 h3 h4 h5)
end
section
variable {κ ν : Type} {P : Program} {F : Fence} {nF : Nat} {k : TypeId} {ek : κ → Value} {ev : ν → Value} {good : κ → Prop} {w : World}
theorem wpListIn_rangeOver {ops : Array Oper} {rest : List Oper} {o : Oper} {a : Act} {Q : Exit → Act → World → Prop} (hgd : o.guard = none) (mo : Operand) (t e : TypeId) (hop : o.op = Op.range t mo)
    (ht : P.underlying t = some (.map k e)) (b : Nat) (m : List (κ × ν)) (hm : a.eval mo = .map (some b)) (h : MapAt ek ev good w b m)
    (hK : ∀ w', RangeAt ek ev good w' b w.heap.size m m → Below w.heap.size w w' → w'.heap.size = w.heap.size + 1 → wpListIn F nF P ops Q rest (a.put o.dst (.pointer (some ⟨w.heap.size, 0, none⟩))) w') : wpListIn F nF P ops Q (o :: rest) a w := by
  refine wpListIn_plain hgd fun K' hK' => ?_
  unfold Oper.wpIn
  refine ⟨by simp [Oper.about, hop], ?_⟩
  rw [Oper.semAt_plain F _ _ (by rw [hop]; intro c hc'; cases hc')]
  obtain ⟨w', hrun, h1, h2, h3⟩ := h.range ht
  simp [execOp, hop, hm, hrun, Result.andThen]
  exact hK' _ _ (hK w' h1 h2 h3)
theorem RangeAt.walks {b r : Nat} {m left : List (κ × ν)} {w' : World} (h : RangeAt ek ev good w b r m left) (hk : KeepsWalks w w') : RangeAt ek ev good w' b r m left := by
  have h' := h
  obtain ⟨es, clock, since, seen, c0, h1, _, _, _, h5, _⟩ := h'
  exact h.block (by rw [h1]; exact hk.same b _ h1 rfl) (by rw [h5]; exact hk.same r _ h5 rfl)
theorem MapAt.walks {b : Nat} {m : List (κ × ν)} {w' : World} (h : MapAt ek ev good w b m) (hk : KeepsWalks w w') : MapAt ek ev good w' b m := by
  have h' := h
  obtain ⟨es, clock, h1, _⟩ := h'
  exact h.block (by rw [h1]; exact hk.same b _ h1 rfl)
theorem RangeAt.walk {b r : Nat} {m left : List (κ × ν)} (h : RangeAt ek ev good w b r m left) : ∃ o : Obj, w.heap[r]? = some o ∧ o.isWalk = true := by
  obtain ⟨es, clock, since, seen, c0, h1, _, _, _, h5, _⟩ := h
  exact ⟨_, h5, rfl⟩
end
theorem Only.one_grown {r : Nat} {w w' : World} (h : Only (· = r) w w') : w.grownBy w' (some r) := ⟨h.os, h.tape, h.output, h.size, fun k hk hne => h.block k hk (fun e => hne (by rw [e]))⟩

/-- what the rounds that collect leave: a box of a slice of its own, and all that lay before -/
structure Collects (E T : TypeId) (size : Nat) (w0 : World) (sb : Nat) (n : Nat) (xs : List Value) (W : World) : Prop where
  has : ∃ v, Blk W sb T #[v] ∧ W.ownsRow w0.heap.size E size v n xs
  below : Below w0.heap.size w0 W
theorem ownsRow_other {W : World} {base : Nat} {e : TypeId} {size : Nat} {v : Value} {k : Nat} {xs : List Value} (h : W.ownsRow base e size v k xs) {j : Nat} {o : Obj} (hj : W.heap[j]? = some o) (hno : ∀ cur, o ≠ .cells cur e (0, 0)) :
    v.ownBlock ≠ some j := by
  rcases h.2 with ⟨rfl, _⟩ | ⟨g, cap, cur, rfl, _, hgb, _⟩
  · simp [Value.ownBlock]
  · intro e'
    have : g = j := by simpa [Value.ownBlock] using e'
    subst this; rw [hgb] at hj; cases hj; exact hno cur rfl
theorem ownsRow_walkless {W : World} {base : Nat} {e : TypeId} {size : Nat} {v : Value} {k : Nat} {xs : List Value} (h : W.ownsRow base e size v k xs) : ∀ (j : Nat) (o : Obj), v.ownBlock = some j → W.heap[j]? = some o → o.isWalk = false := by
  intro j o hj ho
  rcases h.2 with ⟨rfl, _⟩ | ⟨g, cap, cur, rfl, _, hgb, _⟩
  · simp [Value.ownBlock] at hj
  · have : g = j := by simpa [Value.ownBlock] using hj
    subst this; rw [hgb] at ho; cases ho; rfl
theorem ownsRow_cells {W W' : World} {row : Option Nat} {base : Nat} {e : TypeId} {size : Nat} {v : Value} {k : Nat} {xs : List Value} (h : W.ownsRow base e size v k xs) (hg : W.grownBy W' row)
    (hrow : ∀ r, row = some r → ∃ o : Obj, W.heap[r]? = some o ∧ o.isCells = false) : W'.ownsRow base e size v k xs := by
  refine h.kept hg ?_
  rcases h.2 with ⟨rfl, _⟩ | ⟨g, cap, cur, rfl, _, hgb, _⟩
  · exact .inl rfl
  · refine .inr fun e' => ?_
    obtain ⟨o, ho, hw⟩ := hrow g (by simpa [Value.ownBlock] using e'.symm)
    rw [hgb] at ho; cases ho; cases hw
theorem Collects.kept {E T : TypeId} {size : Nat} {w0 : World} {sb n : Nat} {xs : List Value} {A B : World} {row : Option Nat} (h : Collects E T size w0 sb n xs A) (hg : A.grownBy B row) (hr : ∀ r, row = some r → w0.heap.size ≤ r ∧ ∃ o : Obj, A.heap[r]? = some o ∧ o.isCells = false) : Collects E T size w0 sb n xs B := by
  obtain ⟨⟨v, h1, h2⟩, h3⟩ := h
  exact ⟨⟨v, (grownBy_keeps_cells hg (fun r e => (hr r e).2) h1 rfl).trans h1, ownsRow_cells h2 hg fun r e => (hr r e).2⟩, h3.grown hg h3.size fun k hk => (hr k hk).1⟩

theorem ownsRow_isCells {W : World} {base : Nat} {e : TypeId} {size : Nat} {v : Value} {k : Nat} {xs : List Value} (h : W.ownsRow base e size v k xs) : ∀ (j : Nat) (o : Obj), v.ownBlock = some j → W.heap[j]? = some o → o.isCells = true := by
  intro j o hj ho
  rcases h.2 with ⟨rfl, _⟩ | ⟨g, cap, cur, rfl, _, hgb, _⟩
  · simp [Value.ownBlock] at hj
  · have : g = j := by simpa [Value.ownBlock] using hj
    subst this; rw [hgb] at ho; cases ho; rfl
theorem wpListIn_append1_at {P : Program} {F : Fence} {nF : Nat} {w : World} {ops : Array Oper} {rest : List Oper} {o : Oper} {a : Act} {Q : Exit → Act → World → Prop} (hgd : o.guard = none) (s x : Operand) (t : TypeId)
    (ho : o.op = .call { callee := .builtin .append, args := #[s, x], argTypes := #[t, t] })
    (base : Nat) (e : TypeId) (i : TypeInfo) (z : Value) (size bytes : Nat) (ht : P.underlying t = some (.slice e)) (hi : P.info? e = some i) (hz : i.zero = some z)
    (hsize : i.size = size) (hby : i.bytes = bytes) (hzs : z.cells.size = size) (hsz : 0 < size)
    (v : Value) (n : Nat) (xs : List Value) (hs : a.eval s = v) (hown : w.ownsRow base e size v n xs)
    (news : List Value) (hx : a.eval x = .slice (some ⟨w.heap.size, 0, none⟩) 1 1) (hl : news.length = size) (h1 : ∀ u ∈ news, u.oneCell' = true)
    (h63 : n + 1 ≤ maxLen) (hbytes : (n + 1) * bytes ≤ 140737488355328) (hbase : base ≤ w.heap.size)
    (h : ∀ v' w', w'.ownsRow base e size v' (n + 1) (xs ++ news) → (w.alloc (.cells news.toArray e)).grownBy w' v.ownBlock → (v'.ownBlock = v.ownBlock ∨ v'.ownBlock = some (w.heap.size + 1)) → wpListIn F nF P ops Q rest (a.put o.dst v') w') :
    wpListIn F nF P ops Q (o :: rest) a (w.alloc (.cells news.toArray e)) := by
  refine wpListIn_append_own_at _ hgd s x t ho base e i z size bytes ht hi hz hsize hby hzs hsz v n xs hs (hown.alloc _) ⟨w.heap.size, 0, none⟩ 1 1 news hx (by rw [hl, Nat.one_mul]) ?_ h1 h63 hbytes (by simp; omega) ?_
  · intro j u hu
    rw [show (⟨w.heap.size, 0, none⟩ : Addr).add j = ⟨w.heap.size, j, none⟩ from by unfold Addr.add; split <;> simp_all]
    rw [cell_of_row _ w.heap.size j news.toArray e (0, 0) (heap_alloc_new w _)]
    simpa using hu
  · intro v' w' hown' hg _ hat
    exact h v' w' hown' hg (by simpa using hat)
/-- a function's result that lies in a slot -/
theorem leaves_tmp {P : Program} {fn : Func} {R : Ending → World → Prop} {p : Tmp} {tmps : Array Value} {w : World} {v : Value} (h : fn.results = #[.tmp p]) (hp : tmps.getD p undef = v) (hR : R (.returned v) w) : LeavesInM Fence.wide 3 P fn tmps R [] .returning w := by
  refine ⟨v, ?_, hR⟩
  have hp' : tmps[p]?.getD undef = v := by simpa using hp
  simp [results, h, hp']

end Go.Proofs.YtpgcghnlepnoiaaGreatDoor

/-
  The contract of family.Adopt.
-/
namespace Go.Proofs.YtpgcghnlepnoiaaGreatDoor
open Go.RowKit
attribute [local go_sem] Oper.semAt_some

theorem setCell_below {B : Nat} {A W : World} (h : Below B A W) (g o : Nat) (v : Value) : Below B (A.setCell ⟨g, o, none⟩ v) (W.setCell ⟨g, o, none⟩ v) := by
  refine ⟨h.os, h.tape, h.output, by simpa [World.setCell] using h.size, fun k hk => ?_⟩
  show (W.heap.modify g _)[k]? = (A.heap.modify g _)[k]?
  rw [Array.getElem?_modify, Array.getElem?_modify, h.block k hk]
theorem Only.setBoth {F : Nat → Prop} {A W : World} (h : Only F A W) (g o : Nat) (v : Value) : Only F (A.setCell ⟨g, o, none⟩ v) (W.setCell ⟨g, o, none⟩ v) := by
  refine ⟨h.os, h.tape, h.output, by simpa [World.setCell] using h.size, fun k hk hf => ?_⟩
  show (W.heap.modify g _)[k]? = (A.heap.modify g _)[k]?
  rw [Array.getElem?_modify, Array.getElem?_modify, h.block k (by simpa [World.setCell] using hk) hf]
theorem Only.putObj {F : Nat → Prop} {A W : World} (h : Only F A W) {D : Nat} (hD : A.heap.size ≤ D) (o : Obj) : Only F A (W.putObj D o) :=
  ⟨h.os, h.tape, h.output, by simpa using h.size, fun k hk hf => (World.putObj_heap_other (by omega)).trans (h.block k hk hf)⟩
theorem belowPutObj {B : Nat} {A W : World} (h : Below B A W) {D : Nat} (hD : B ≤ D) (o : Obj) : Below B A (W.putObj D o) :=
  ⟨h.os, h.tape, h.output, by simpa using h.size, fun k hk => (World.putObj_heap_other (by omega)).trans (h.block k hk)⟩
theorem keepsFrom_of_below {B : Nat} {A W : World} (h : Below A.heap.size A W) : KeepsFrom B A W := ⟨h.size, fun k o _ hk _ => (h.block k (Array.getElem?_eq_some_iff.1 hk).1).trans hk⟩
theorem cell_int_run {P : Program} {w : World} {g : Nat} {ty : TypeId} {x : Int} (ha : ∀ w, (isAgg ty).run P w = .ok false w) (hc : w.cell? ⟨g, 0, none⟩ = some (.int .i64 x)) :
    ((asAddr (.pointer (some ⟨g, 0, none⟩))).run P w).andThen (fun a w' => (loadVar ty a).run P w') = .ok (.int .i64 x) w := by
  simp [asAddr, go_sem, ha, hc]
/-- a function's result that lies in a cell -/
theorem leaves_cell {P : Program} {fn : Func} {R : Ending → World → Prop} {p : Tmp} {ty : TypeId} {tmps : Array Value} {w : World} (h : fn.results = #[.cell p ty]) {g : Nat} {x : Int} (hp : tmps.getD p undef = .pointer (some ⟨g, 0, none⟩)) (hu : ∀ w, (isAgg ty).run P w = .ok false w)
    (hc : w.cell? ⟨g, 0, none⟩ = some (.int .i64 x)) (hR : R (.returned (.int .i64 x)) w) : LeavesInM Fence.wide 3 P fn tmps R [] .returning w := by
  refine ⟨.int .i64 x, ?_, hR⟩
  have hp' : tmps[p]?.getD undef = .pointer (some ⟨g, 0, none⟩) := by simpa using hp
  simp [results, h, hp']
  exact cell_int_run hu hc

set_option maxHeartbeats 4000000 in
set_option maxRecDepth 100000 in
theorem fadopt_in {G : Nat → Prop} {w0 w : World} {l : List Assn} {p : Nat} {m : Fam} (h : In G w0 (FamA p m :: l) w) (c q : Hd) :
    Calls Tryz.prog 43 #[.pointer (some ⟨p, 0, none⟩), hdV c, hdV q] w fun e w' => e = .returned (.int .i64 (adoptR m c q).2) ∧ In G w0 (FamA p (adoptR m c q).1 :: l) w' := by
  obtain ⟨hm, b, hI⟩ := h.openFam
  have HM := Lib.hid hm
  have HI0 := Lib.hid hI
  clear h hm hI
  obtain ⟨xs, hc⟩ := Chain.exists HM.out.acyc q
  have HC := Lib.hid hc
  clear hc
  obtain ⟨c1, c2⟩ := c
  obtain ⟨q1, q2⟩ := q
  rw [hdV_eq, hdV_eq]
  have heq : ∀ (x y : List Int) W, x.length = 2 → y.length = 2 → (binOp .eql 46 (.agg (ints x)) (.agg (ints y))).run Tryz.prog W = .ok (.bool (decide (x = y))) W := fun x y W h1 h2 => eql_handle x y h1 h2 W
  have HEQ := Lib.hid heq
  clear heq
  refine (callsIn_wide (n := 3)).1 ?_
  refine callsIn_of_wp_marks Tryz.func43 rfl trivial ?_ rfl
  simp only [Tryz.ntmps43, List.size_toArray, List.length_cons, List.length_nil, Nat.reduceAdd, Nat.reduceSub, Array.replicate_succ, Array.replicate_zero, List.push_toArray, List.append_toArray, List.nil_append, List.cons_append]
  rw [wpIn_wide]
  go_upto_region 1 with (fail)
  refine wp_abs (In G w0 (Box (w.heap.size + 1 + 1) 28 #[.int .i64 0] :: Box (w.heap.size + 1) 46 (ints [q1, q2]) :: Box w.heap.size 46 (ints [c1, c2]) :: Box p 126 #[.map (some b)] :: FMap b m :: l)) (by
    have := ((HI0.out.alloc 46 (ints [c1, c2])).alloc 46 (ints [q1, q2])).alloc 28 #[.int .i64 0]
    simp only [World.size_alloc] at this
    exact this) ?_
  generalize w.heap.size + 1 + 1 = rb
  generalize w.heap.size + 1 = qb
  generalize w.heap.size = cb
  intro w1 hI
  have k1 : row? w1 cb 0 2 = some (ints [c1, c2]) := hI.third.blk.row_all rfl
  have k2 : row? w1 qb 0 2 = some (ints [q1, q2]) := hI.swap.blk.row_all rfl
  have k3 : w1.cell? ⟨rb, 0, none⟩ = some (.int .i64 0) := hI.blk.cell 0
  have k4 : w1.frozen? ⟨rb, 0, none⟩ = false := hI.blk.frozen 0
  have hn := fun W => HEQ.out [c1, c2] [q1, q2] W rfl rfl
  have HI := Lib.hid hI
  clear hI HI0
  by_cases e : (c1, c2) = (q1, q2)
  · have hd : decide ([c1, c2] = [q1, q2]) = true := by rw [decide_eq_true_eq]; injection e with e1 e2; rw [e1, e2]
    rw [hd] at hn
    have HA : Hid (adoptR m (c1, c2) (q1, q2) = (m, 8)) := by unfold Hid adoptR; rw [if_pos (Or.inl e)]
    clear hd e
    go_wp2_with fail
    have HI2 := HI.out.set 0 (.int .i64 8)
    refine leaves_cell (p := 6) (ty := 28) rfl (g := rb) (x := 8) rfl Tryz.isAgg28 (HI2.blk.cell 0) ?_
    rw [HA.out]
    exact ⟨rfl, In.shutFam HM.out HI2.drop.drop.drop⟩
  · have hd : decide ([c1, c2] = [q1, q2]) = false := by
      rw [decide_eq_false_iff_not]
      intro e'
      injection e' with e1 e2
      injection e2 with e2 _
      exact e (by rw [e1, e2])
    rw [hd] at hn
    have HNE := Lib.hid e
    clear hd e
    go_wp2_with fail
    refine (above_any p (q1, q2) w1).mono ?_
    rintro e w2 ⟨rfl, rfl⟩
    go_wp2_with fail
    have hb0 : Below w1.heap.size w1 ((w1.alloc (.cells #[.pointer (some ⟨p, 0, none⟩)] 85)).alloc (.cells (ints (hL (q1, q2))) 46)) := ((Below.refl _ _).alloc (Nat.le_refl _) _).alloc (by simp) _
    have hF := (Blk.new w1 85 #[.pointer (some ⟨p, 0, none⟩)]).alloc (.cells (ints (hL (q1, q2))) 46)
    have hH := Blk.new (w1.alloc (.cells #[.pointer (some ⟨p, 0, none⟩)] 85)) 46 (ints (hL (q1, q2)))
    rw [World.size_alloc] at hH
    have HI2 := Lib.hid (HI.out.below hb0)
    generalize ((w1.alloc (.cells #[.pointer (some ⟨p, 0, none⟩)] 85)).alloc (.cells (ints (hL (q1, q2))) 46)) = W0 at *
    generalize w1.heap.size + 1 = hb at *
    generalize w1.heap.size = fb at *
    have hS : FamSee W0 p b m := ⟨HM.out, HI2.out.fourth.blk, (HI2.out.fifth).mapAt⟩
    clear hb0 k1 k2 k3 k4 HI
    refine (wpIn_wide (n := 3)).1 ?_
    refine wpIn_rangeFunc_ownH (F := Fence.wide) (n := 3) rfl (by decide) (gf := 114) (lb := #[.pointer (some ⟨fb, 0, none⟩), .pointer (some ⟨hb, 0, none⟩)]) rfl trivial (enters_of Tryz.func114 (by kernel_rfl) rfl)
      (above_stops 2 (by decide) fb hb p b m (q1, q2) xs HC.out W0 hF hH hS) keepsData_t keepsData_b (Below.refl _ _) (fun _ => rfl)
      (fun pre W => (∀ x ∈ pre, x ≠ (c1, c2)) ∧ Below W0.heap.size W0 W)
      (fun c pre W => c = .ret ∧ (c1, c2) ∈ pre ∧ Below W0.heap.size (W0.setCell ⟨rb, 0, none⟩ (.int .i64 8)) W)
      (fun s A B row hs hg hr => ⟨hs.1, hs.2.grown hg hs.2.size fun k hk => (hr k hk).1⟩)
      (fun c s A B row hs hg hr => ⟨hs.1, hs.2.1, hs.2.2.grown hg (by have := hs.2.2.size; simpa [World.setCell] using this) fun k hk => (hr k hk).1⟩)
      ⟨by simp, Below.refl _ _⟩
      (fun x a' W => ∃ xb, Blk W xb 46 (ints (hL x)) ∧ a' = { tmps := #[.pointer (some ⟨p, 0, none⟩), .agg #[.int .i64 c1, .int .i64 c2], .agg #[.int .i64 q1, .int .i64 q2], undef, .pointer (some ⟨cb, 0, none⟩), .pointer (some ⟨qb, 0, none⟩), .pointer (some ⟨rb, 0, none⟩), .pointer (some ⟨xb, 0, none⟩), .agg (ints [c1, c2]), .agg (ints [q1, q2]), .bool false, .pointer (some ⟨p, 0, none⟩), .agg (ints [q1, q2]),
        .func (.func 114) #[] #[.pointer (some ⟨fb, 0, none⟩), .pointer (some ⟨hb, 0, none⟩)], hdV x, undef, undef, undef, undef, undef, undef, undef, undef, undef], defers := [] })
      (fun x a' _ A B row hs hg hr => by
        obtain ⟨xb, h1, h2⟩ := hs
        exact ⟨xb, (grownBy_keeps_cells hg (fun r e => (hr r e).2) h1 rfl).trans h1, h2⟩)
      ?assign ?body ?done ?stop
    case assign =>
      rintro l1 pre ⟨x1, x2⟩ W K hi hK
      gi_wp2
      have hb1 := below_new_put W 46 [0, 0] [x1, x2]
      exact hK _ _ (keepsFrom_of_below hb1) (KeepsData.of_below hb1) ⟨hi.1, hi.2.trans (hb1.mono hi.2.size)⟩ ⟨W.heap.size, blk_new_put W 46 [0, 0] [x1, x2] rfl, rfl⟩
    case body =>
      rintro l1 pre ⟨x1, x2⟩ a' W hl1 ⟨r, hr⟩ ⟨hno, hbW⟩ ⟨xb, hxb, rfl⟩ hlt
      have HIW := HI2.out.below hbW
      have k1 : row? W xb 0 2 = some (ints [x1, x2]) := hxb.row_all rfl
      have k2 : row? W cb 0 2 = some (ints [c1, c2]) := HIW.third.blk.row_all rfl
      have k3 : W.cell? ⟨rb, 0, none⟩ = some (.int .i64 0) := HIW.blk.cell 0
      have k4 : W.frozen? ⟨rb, 0, none⟩ = false := HIW.blk.frozen 0
      have hn := fun W => HEQ.out [x1, x2] [c1, c2] W rfl rfl
      have HNO := Lib.hid hno
      have HBW := Lib.hid hbW
      have HSZ : Hid (rb < W0.heap.size) := HI2.out.blk.lt
      clear hno hbW HIW hxb
      by_cases e : (x1, x2) = (c1, c2)
      · have hd : decide ([x1, x2] = [c1, c2]) = true := by rw [decide_eq_true_eq]; injection e with e1 e2; rw [e1, e2]
        rw [hd] at hn
        have HE := Lib.hid e
        clear hd e
        gi_wp2
        exact ⟨(KeepsOthers.setCell _ _ _).from _, rfl, by rw [HE.out]; simp, setCell_below HBW.out _ _ _⟩
      · have hd : decide ([x1, x2] = [c1, c2]) = false := by
          rw [decide_eq_false_iff_not]
          intro e'
          injection e' with e1 e2
          injection e2 with e2 _
          exact e (by rw [e1, e2])
        rw [hd] at hn
        have HE := Lib.hid e
        clear hd e
        gi_wp2
        exact ⟨KeepsFrom.refl _ _, KeepsData.refl _, fun y hy => by rcases List.mem_append.1 hy with hy | hy; exact HNO.out y hy; rw [List.mem_singleton.1 hy]; exact HE.out, HBW.out⟩
    case done =>
      rintro D ys W hD rfl ⟨hno, hbW⟩ hK
      have HA : Hid (adoptR m (c1, c2) (q1, q2) = (mput m (c1, c2) (q1, q2), 0)) := by
        unfold Hid adoptR
        rw [if_neg]
        rintro (e | e)
        · exact HNE.out e
        · exact hno _ (HC.out.mem.2 e) rfl
      have HIW := HI2.out.below hbW
      have k1 : row? W cb 0 2 = some (ints [c1, c2]) := HIW.third.blk.row_all rfl
      have k2 : row? W qb 0 2 = some (ints [q1, q2]) := HIW.swap.blk.row_all rfl
      have k3 : W.cell? ⟨p, 0, none⟩ = some (.map (some b)) := HIW.fourth.blk.cell 0
      have HBW := Lib.hid hbW
      have HD := Lib.hid hD
      have HK := Lib.hid hK
      have HM2 : Hid (MapAt hdV hdV (fun _ => True) W b m) := HIW.fifth.mapAt
      clear hno hbW hD hK HIW hS hF hH
      go_wp2_with fail
      go_still_tail 6, (by kernel_rfl)
      change wpList _ _ _ _ _ W.drew
      have HM3 : Hid (MapAt hdV hdV (fun _ => True) W.drew b m) := HM2.out
      have HBW3 : Hid (Below W0.heap.size W0 W.drew) := HBW.out.drew
      have HK3 : Hid (W.drew.heap[D]? = some (.deferred (some []))) := HK.out
      clear HM2 HBW HK k1 k2 k3
      generalize W.drew = W2 at *
      go_wp2_with (at_mapUpdate; go_loud (refine wpList_store keyHd rfl _ _ _ 124 46 rfl Tryz.underlying124 b m rfl HM3.out (c1, c2) rfl trivial (q1, q2) rfl ?_))
      intro W3 h1 h2 h3
      have HO : Hid (Only (· = b) W0 W3) := (Only.of_below HBW3.out).trans h2
      have hK4 : W3.heap[D]? = some (.deferred (some [])) := by
        have hlt := (Array.getElem?_eq_some_iff.1 HK3.out).1
        refine (h2.block D hlt ?_).trans HK3.out
        intro e
        obtain ⟨es, clock, hb', _⟩ := HM3.out
        rw [← e, HK3.out] at hb'
        cases hb'
      have HMP := Lib.hid h1
      have hne : rb ≠ b := fun e => by
        obtain ⟨es, clock, hb', _⟩ := (HI2.out.fifth).mapAt
        have := HI2.out.blk
        rw [e] at this
        unfold Blk at this
        rw [this] at hb'
        cases hb'
      have hrb : Blk W3 rb 28 #[.int .i64 0] := HO.out.blk HI2.out.blk hne
      have HRB := Lib.hid hrb
      have k5 : W3.cell? ⟨rb, 0, none⟩ = some (.int .i64 0) := hrb.cell 0
      have k6 : W3.frozen? ⟨rb, 0, none⟩ = false := hrb.frozen 0
      have HK4 := Lib.hid hK4
      clear h1 h2 h3 HM3 HBW3 HK3 hK4 hne hrb
      go_wp2_with fail
      have hKD : (W3.setCell ⟨rb, 0, none⟩ (.int .i64 0)).heap[D]? = some (.deferred (some [])) := by
        rw [Below.heap_setCell _ _ _ _ (by
          intro e
          have h1 := HRB.out
          unfold Blk at h1
          simp only at e
          rw [← e, HK4.out] at h1
          cases h1)]
        exact HK4.out
      have HI3 := HI2.out.set 0 (.int .i64 0)
      have hO2 : Only (· = b) (W0.setCell ⟨rb, 0, none⟩ (.int .i64 0)) ((W3.setCell ⟨rb, 0, none⟩ (.int .i64 0)).putObj D (.deferred none)) := (HO.out.setBoth rb 0 (.int .i64 0)).putObj (by simpa [World.setCell] using HD.out) _
      have hlb : b < W0.heap.size := ((HI2.out.fifth).mapAt).lt
      have hM4 : MapAt hdV hdV (fun _ => True) ((W3.setCell ⟨rb, 0, none⟩ (.int .i64 0)).putObj D (.deferred none)) b (mput m (c1, c2) (q1, q2)) := by
        refine HMP.out.block ?_
        rw [World.putObj_heap_other (by have := HD.out; omega), Below.heap_setCell]
        intro e
        obtain ⟨es, clock, hb', _⟩ := HMP.out
        have h1 := HRB.out
        unfold Blk at h1
        simp only at e
        rw [← e, hb'] at h1
        cases h1
      have HI4 := In.mapped HI3.fifth hM4 hO2
      refine ⟨by simp, .inl ⟨D, _, rfl, run_takeDeferred hKD, ?_⟩⟩
      refine leaves_cell (p := 6) (ty := 28) rfl (g := rb) (x := 0) rfl Tryz.isAgg28 (HI4.swap.blk.cell 0) ?_
      rw [HA.out]
      have hok := HM.out.adopt (c1, c2) (q1, q2)
      rw [HA.out] at hok
      exact ⟨rfl, In.shutFam hok (HI4.swap.drop.swap.drop.swap.drop.swap)⟩
    case stop =>
      rintro D c pre W hD hpre ⟨rfl, hmem, hbW⟩ hK
      have HA : Hid (adoptR m (c1, c2) (q1, q2) = (m, 8)) := by
        unfold Hid adoptR
        rw [if_pos (Or.inr (HC.out.mem.1 (hpre.subset hmem)))]
      have HI3 := HI2.out.set 0 (.int .i64 8)
      have HI4 := HI3.below ((belowPutObj hbW (D := D) (by simpa [World.setCell] using hD) (.deferred none)).mono (by simp [World.setCell]))
      gi_wp2
      refine ⟨by simp, .inl ⟨D, _, rfl, run_takeDeferred hK, ?_⟩⟩
      refine leaves_cell (p := 6) (ty := 28) rfl (g := rb) (x := 8) rfl Tryz.isAgg28 (HI4.blk.cell 0) ?_
      rw [HA.out]
      exact ⟨rfl, In.shutFam HM.out HI4.drop.drop.drop⟩

end Go.Proofs.YtpgcghnlepnoiaaGreatDoor

/-
  The closed fact 'related', and 'grown': a family by some ops.
-/
namespace Go.Proofs.YtpgcghnlepnoiaaGreatDoor
open Go.RowKit

noncomputable def growR (m : Fam) (o : OpM) : Fam := if o.d = 5 then (adoptR m o.a o.t).1 else if o.d = 6 then (loosenR m o.a).1 else if o.d = 2 then goneR m o.a else m
noncomputable def growsR (os : List OpM) : Fam := os.foldl growR []
theorem growsR_snoc (os : List OpM) (o : OpM) : growsR (os ++ [o]) = growR (growsR os) o := by simp [growsR, List.foldl_append]
theorem growR_ok {m : Fam} (h : FamOk m) (o : OpM) : FamOk (growR m o) := by
  unfold growR
  split
  · exact h.adopt _ _
  · split
    · exact h.loosen _
    · split
      · exact h.gone _
      · exact h
theorem growR_len (m : Fam) (o : OpM) : (growR m o).length ≤ m.length + 1 := by
  unfold growR
  split
  · exact adopt_len _ _ _
  · split
    · exact Nat.le_succ_of_le (loosen_len _ _)
    · split
      · exact Nat.le_succ_of_le (gone_len _ _)
      · exact Nat.le_succ _
theorem grows_aux (os : List OpM) : ∀ m : Fam, FamOk m → FamOk (os.foldl growR m) ∧ (os.foldl growR m).length ≤ m.length + os.length := by
  induction os with
  | nil => exact fun m h => ⟨h, Nat.le_refl _⟩
  | cons o os ih =>
    intro m h
    have h1 := ih (growR m o) (growR_ok h o)
    have h2 := growR_len m o
    refine ⟨h1.1, ?_⟩
    have := h1.2
    rw [List.foldl_cons, List.length_cons]
    omega
theorem growsR_ok (os : List OpM) : FamOk (growsR os) := (grows_aux os [] FamOk.nil).1
theorem growsR_len (os : List OpM) : (growsR os).length ≤ os.length := by
  have := (grows_aux os [] FamOk.nil).2
  unfold growsR
  simpa using this


end Go.Proofs.YtpgcghnlepnoiaaGreatDoor

/-
  Slices of handles and of bonds handed to vivariumref.Has and Eq; the closed fact 'related'.
-/
namespace Go.Proofs.YtpgcghnlepnoiaaGreatDoor
open Go.RowKit

theorem mem_map_hL {x : Hd} {hs : List Hd} : decide (hL x ∈ hs.map hL) = decide (x ∈ hs) := by
  rw [Bool.eq_iff_iff, decide_eq_true_eq, decide_eq_true_eq, List.mem_map]
  constructor
  · rintro ⟨y, hy, e⟩
    rw [← hL_inj e]; exact hy
  · exact fun h => ⟨x, h, rfl⟩
theorem bL_inj {a b : Hd × Hd} (h : bL a = bL b) : a = b := by
  unfold bL at h
  injection h with h1 h
  injection h with h2 h
  injection h with h3 h
  injection h with h4 _
  exact Prod.ext (Prod.ext h1 h2) (Prod.ext h3 h4)

section
variable {G : Nat → Prop} {w0 w : World} {l : List Assn} {v u : Value}
theorem eqB_in {bs cs : List (Hd × Hd)} (h : In G w0 (RowB v bs :: RowB u cs :: l) w) : Calls Tryz.prog 29 #[v, u] w fun e w' => e = .returned (.bool (decide (bs = cs))) ∧ Below w.heap.size w w' := by
  obtain ⟨A, c, rfl, hc1, hc2, hch, _⟩ := own_chunks (f := bL) (fun _ => rfl) bL_len h.rowAt
  obtain ⟨A', c', rfl, hc1', hc2', hch', _⟩ := own_chunks (f := bL) (fun _ => rfl) bL_len h.swap.rowAt
  have := eqBond_any A A' c c' (bs.map bL) (cs.map bL) w hch hch' (by rw [List.length_map]; omega) (by rw [List.length_map]; omega)
  have hd : sameRows (bs.map bL) (cs.map bL) = decide (bs = cs) := by
    unfold sameRows
    rw [Bool.eq_iff_iff, decide_eq_true_eq, decide_eq_true_eq]
    exact ⟨fun h => map_inj' (fun _ _ => bL_inj) h, fun h => by rw [h]⟩
  rw [List.length_map, List.length_map, hd] at this
  exact this
theorem funder_in {p : Nat} {m : Fam} (h : In G w0 (FamA p m :: l) w) (hl : m.length ≤ 1099511627776) (a : Hd) :
    Calls Tryz.prog 92 #[.pointer (some ⟨p, 0, none⟩), hdV a] w fun e w' => ∃ v, e = .returned v ∧ In G w0 (RowH v (under m a) :: FamA p m :: l) w' := by
  obtain ⟨rk, R, hr⟩ := h.famOk.acyc
  exact funder_aux h.famOk hl rk R hr (R - rk a + 1) a (Nat.lt_succ_self _) h
end

def rm1 : Fam := [((2, 0), (1, 0))]
def rm2 : Fam := [((2, 0), (1, 0)), ((3, 0), (2, 0))]
theorem rel1 : adoptR [] (2, 0) (1, 0) = (rm1, 0) := by
  unfold adoptR
  rw [if_neg]
  · rfl
  · rintro (e | e)
    · simp at e
    · exact Up.none rfl e
theorem rel2 : adoptR rm1 (3, 0) (2, 0) = (rm2, 0) := by
  have hc : Chain rm1 (2, 0) [(1, 0)] := .cons rfl (.nil rfl)
  unfold adoptR
  rw [if_neg]
  · rfl
  · rintro (e | e)
    · simp at e
    · have := hc.mem.2 e
      simp at this
theorem rel3 : adoptR rm2 (1, 0) (3, 0) = (rm2, 8) := by
  unfold adoptR
  rw [if_pos (Or.inr (.more (p := (2, 0)) rfl (.one rfl)))]
theorem rel4 (hm : FamOk rm2) : under rm2 (1, 0) = [(2, 0), (3, 0)] := by
  have k1 : kids rm2 (1, 0) = [(2, 0)] := by unfold kids; rw [show kidsRaw rm2 (1, 0) = [(2, 0)] from by decide]; exact List.mergeSort_singleton _
  have k2 : kids rm2 (2, 0) = [(3, 0)] := by unfold kids; rw [show kidsRaw rm2 (2, 0) = [(3, 0)] from by decide]; exact List.mergeSort_singleton _
  have k3 : kids rm2 (3, 0) = [] := by unfold kids; rw [show kidsRaw rm2 (3, 0) = [] from by decide]; exact List.mergeSort_nil
  have u3 : under rm2 (3, 0) = [] := by rw [under_eq hm.nodup hm.acyc, k3]; rfl
  have u2 : under rm2 (2, 0) = [(3, 0)] := by rw [under_eq hm.nodup hm.acyc, k2]; simp [u3]
  rw [under_eq hm.nodup hm.acyc, k1]; simp [u2]


end Go.Proofs.YtpgcghnlepnoiaaGreatDoor

/-
  The contracts of maps.Keys at a map of tables, its iterator, slices.AppendSeq and Collect at ints.
-/
namespace Go.Proofs.YtpgcghnlepnoiaaGreatDoor
open Go.RowKit
attribute [local go_sem] Oper.semAt_some

theorem grownW {A B : World} (h : Below A.heap.size A B) : A.grownBy B none := ⟨h.os, h.tape, h.output, h.size, fun k hk _ => h.block k hk⟩

theorem belowPutW {B : Nat} {A W : World} (h : Below B A W) {D : Nat} (hD : B ≤ D) (o : Obj) : Below B A (W.putObj D o) :=
  ⟨h.os, h.tape, h.output, by simpa using h.size, fun k hk => (World.putObj_heap_other (by omega)).trans (h.block k hk)⟩
theorem tkeys_any (b : Nat) (w : World) : Calls Tryz.prog 63 #[.map (some b)] w fun e w' =>
    e = .returned (.func (.func 101) #[] #[.pointer (some ⟨w.heap.size, 0, none⟩)]) ∧ w' = w.alloc (.cells #[.map (some b)] 96) := by
  go_enter Tryz.func63, Tryz.ntmps63
  go_wp2_with fail
  go_ret
  exact ⟨rfl, rfl⟩
theorem keysI_perm {m left : List (Int × Nat)} {pre : List Int} {x : Int} {v : Nat} (hn : (mkeys left).Nodup) (hx : (x, v) ∈ left) (hp : (pre ++ mkeys left).Perm (mkeys m)) : ((pre ++ [x]) ++ mkeys (mdel left x)).Perm (mkeys m) := by
  refine List.Perm.trans ?_ hp
  rw [List.append_assoc]
  exact List.Perm.append_left _ ((mdel_perm hn hx).map (fun p : Int × Nat => p.1)).symm

set_option maxHeartbeats 4000000 in
set_option maxRecDepth 100000 in
theorem tkeys_stops (n : Nat) (hn : 1 ≤ n) (kb b : Nat) (m : List (Int × Nat)) (w : World) (hB : Blk w kb 96 #[.map (some b)]) (hM : MapAt (Value.int .i64) ptrV goodI w b m) :
    SeqStopsK Fence.wide n Tryz.prog 101 #[.pointer (some ⟨kb, 0, none⟩)] (fun x : Int => #[.int .i64 x]) KeepsWalks (fun ys => ys.Perm (mkeys m)) (fun _ => True) m.length w := fun l J Jx W hW hJ hJx hY h0 => by
  have HJ := Lib.hid hJ
  have HY := Lib.hid hY
  have HJ0 := Lib.hid h0
  have hM1 := hM.after hW
  have k0 : W.cell? ⟨kb, 0, none⟩ = some (.map (some b)) := (hB.after hW).cell 0
  have HND : Hid ((mkeys m).Nodup) := hM.nodup keyI
  clear hJ hY hW hJx h0 hB
  refine callsIn_of_wp Tryz.func101 rfl trivial ?_ rfl
  simp only [Tryz.ntmps101, List.size_toArray, List.length_cons, List.length_nil, Nat.reduceAdd, Nat.reduceSub, Array.replicate_succ, Array.replicate_zero, List.push_toArray, List.append_toArray, List.nil_append, List.cons_append]
  gi_wp2_with (first
    | (gi_at_range; refine wpListIn_rangeOver rfl _ 96 136 rfl Tryz.underlying96 b _ rfl hM1 ?_; intro w2 hr2 hb2 hs2)
    | gi_in)
  have HR2 := Lib.hid hr2
  have HJ2 : Hid (J [] w2) := HJ.out [] W w2 none HJ0.out (grownW hb2) (fun r e => by cases e)
  have HLE : Hid (W.heap.size ≤ W.heap.size) := Nat.le_refl _
  generalize hri : W.heap.size = ri at *
  clear hr2 hb2 hs2 hM1 k0 hM HJ0
  gi_loopw [6] (fun _ wr => ∃ (left : List (Int × Nat)) (pre : List Int), (mkeys left).Nodup ∧ (pre ++ mkeys left).Perm (mkeys m) ∧ RangeAt (Value.int .i64) ptrV goodI wr b ri m left ∧ J pre wr) (fun _ wr => wr.rangeLeft b ri)
  case atStart => exact ⟨m, [], HND.out, by simp, HR2.out, HJ2.out⟩
  case round =>
    clear HJ2 HR2
    obtain ⟨left, pre, hnd, hp, hr, hJp⟩ := hrel
    have HND := Lib.hid hnd
    have HP := Lib.hid hp
    have HR := Lib.hid hr
    have HJP := Lib.hid hJp
    clear hnd hp hr hJp
    gi_wp2_with (first
      | (gi_at_next; refine wpListIn_nextOf keyI rfl _ rfl b ri _ left rfl HR.out ?_ ?_)
      | gi_in)
    · intro hl0
      subst hl0
      gi_wp2
      go_end0
      exact ⟨⟨_, rfl⟩, .inl ⟨pre, by have := HP.out; simpa [mkeys] using this, HJP.out⟩⟩
    · intro x v w7 hx hr7 ho7 hs7 hlt7 hen
      have HR7 := Lib.hid hr7
      have HLEN := Lib.hid hlt7
      have HST := Lib.hid (keysI_perm HND.out hx HP.out)
      have HND2 : Hid ((mkeys (mdel left x)).Nodup) := mdel_nodup HND.out _
      have HPL : Hid (pre.length < m.length) := by
        have := HST.out.length_eq
        simp [mkeys] at this
        unfold Hid; omega
      have HJ7 : Hid (J pre w7) := HJ.out pre wr w7 (some ri) HJP.out ho7.one_grown (fun r e => by cases e; exact ⟨HLE.out, HR.out.walk⟩)
      obtain ⟨fn, tmps, assign, body, hy, hR⟩ := HY.out pre x w7 HJ7.out HPL.out
      have HRR := Lib.hid hR
      clear hr7 ho7 hs7 hlt7 hx hR
      gi_wp2
      refine HRR.out.mono ?_
      rintro e W3 (⟨rfl, hJ3, hk3⟩ | ⟨rfl, hJx3⟩)
      · have HJ3 := Lib.hid hJ3
        have HR3 := Lib.hid (HR7.out.walks hk3)
        clear hJ3 hk3 hy hen
        gi_wp2
        go_roundw
        case rel => exact ⟨mdel left x, pre ++ [x], HND2.out, HST.out, HR3.out, HJ3.out⟩
        case measure => rw [HR3.out.count, HR.out.count]; exact HLEN.out
      · gi_wp2
        refine bodyPost_ret (results_none rfl _ _ _) rfl ?_
        exact ⟨⟨_, rfl⟩, .inr ⟨pre ++ [x], trivial, hJx3⟩⟩

theorem int_parts2 : (Tryz.prog.info? 3).map (fun i => (i.zero, i.size, i.bytes)) = some (some (.int .i64 0), 1, 8) := by kernel_rfl
set_option maxHeartbeats 4000000 in
set_option maxRecDepth 100000 in
theorem appendSeqI_any (gf : Nat) (lb : Array Value) (eg : ∀ args w, (callFunc gf args).run Tryz.prog w = .ok (.enter gf args) w) (S Sp : List Int → Prop) (N : Nat) (hN : N ≤ 1099511627776) (w : World)
    (hseq : SeqStopsK Fence.wide 2 Tryz.prog gf lb (fun x : Int => #[.int .i64 x]) KeepsWalks S Sp N w) :
    Calls Tryz.prog 100 #[.slice none 0 0, .func (.func gf) #[] lb] w fun e w' => ∃ v, ∃ ys : List Int, e = .returned v ∧ S ys ∧ w'.ownsRow w.heap.size 3 1 v ys.length (ys.map (Value.int .i64)) ∧ Below w.heap.size w w' := by
  have HSEQ := Lib.hid hseq
  have HEG := Lib.hid eg
  clear hseq eg
  obtain ⟨i0, hi0, hz0, hz1, hz2⟩ := info_parts int_parts2
  refine (callsIn_wide (n := 3)).1 ?_
  refine callsIn_of_wp_marks Tryz.func100 rfl trivial ?_ rfl
  simp only [Tryz.ntmps100, List.size_toArray, List.length_cons, List.length_nil, Nat.reduceAdd, Nat.reduceSub, Array.replicate_succ, Array.replicate_zero, List.push_toArray, List.append_toArray, List.nil_append, List.cons_append]
  rw [wpIn_wide]
  go_wp2_with fail
  have HB0 : Hid (Below w.heap.size w (w.alloc (.cells #[.slice none 0 0] 22))) := (Below.refl _ _).alloc (Nat.le_refl _) _
  have HC0 : Hid (Collects 3 22 1 w w.heap.size 0 [] (w.alloc (.cells #[.slice none 0 0] 22))) := ⟨⟨_, Blk.new w _ _, World.ownsRow_nil _ _ _ _⟩, HB0.out⟩
  have HSZ : Hid ((w.alloc (.cells #[.slice none 0 0] 22)).heap.size = w.heap.size + 1) := by simp [Hid]
  generalize (w.alloc (.cells #[.slice none 0 0] 22)) = W0 at *
  refine (wpIn_wide (n := 3)).1 ?_
  refine wpIn_rangeFunc_ownH (F := Fence.wide) (n := 3) rfl (by decide) (gf := gf) (lb := lb) rfl trivial HEG.out
    HSEQ.out walksK_t walksK_b HB0.out (fun _ => rfl)
    (fun pre W => Collects 3 22 1 w w.heap.size pre.length (pre.map (Value.int .i64)) W)
    (fun _ _ _ => False)
    (fun s A B row hs hg hr => hs.kept hg fun r e => ⟨by have := (hr r e).1; have := HSZ.out; omega, (hr r e).2⟩)
    (fun c s A B row hs hg hr => hs)
    HC0.out
    (fun x a' W => a' = { tmps := #[.slice none 0 0, .func (.func gf) #[] lb, .pointer (some ⟨w.heap.size, 0, none⟩), undef, .slice none 0 0, .int .i64 x, .func (.func gf) #[] lb, .int .i64 x, undef, undef, undef, undef, undef], defers := [] })
    (fun x a' _ A B row hs hg hr => hs)
    ?assign ?body ?done ?stop
  case assign =>
    rintro l1 pre x W K hi hK
    gi_wp2
    exact hK _ _ (KeepsFrom.refl _ _) (KeepsWalks.refl _) hi rfl
  case body =>
    rintro l1 pre x a' W hl1 ⟨r, hr⟩ ⟨⟨v, hv1, hv2⟩, hb⟩ rfl hlt
    have k2 : W.cell? ⟨w.heap.size, 0, none⟩ = some v := hv1.cell 0
    have HV1 := Lib.hid hv1
    have HV2 := Lib.hid hv2
    have HB := Lib.hid hb
    have hp1 : pre.length + 1 ≤ maxLen := by unfold maxLen; omega
    have hp2 : (pre.length + 1) * 8 ≤ 140737488355328 := by omega
    have hp3 := hb.size
    clear hv1 hv2 hb hr
    gi_wp2_with (first
      | (gi_at_builtin; refine wpListIn_append1_at rfl _ _ 22 rfl w.heap.size 3 i0 _ 1 8 Tryz.underlying22 hi0 hz0 hz1 hz2 rfl (by decide) v pre.length (pre.map (Value.int .i64)) rfl HV2.out [.int .i64 x] rfl rfl (by simp [Value.oneCell']) hp1 hp2 hp3 ?_
         intro v' w9 ho hg hor
         have hv9 : Blk w9 w.heap.size 22 #[v] := by
           have h1 := HV1.out.alloc (.cells [Value.int .i64 x].toArray 3)
           refine (hg.block w.heap.size h1.lt ?_).trans h1
           exact fun e => ownsRow_other (HV2.out.alloc (.cells [Value.int .i64 x].toArray 3)) h1 (fun cur e => by injection e with _ e2; exact absurd e2 (by decide)) e.symm
         have HK9 : Hid (KeepsOthers W w9) := (KeepsOthers.alloc W _).trans (KeepsOthers.of_grownBy hg (ownsRow_isCells (HV2.out.alloc _)))
         have HB9 : Hid (Below w.heap.size w w9) := (HB.out.alloc HB.out.size _).grown hg (by have := HB.out.size; simp; omega) (fun k e => (World.ownsRow.lt HV2.out k e).1)
         have HV9 := Lib.hid hv9
         have HO9 := Lib.hid ho
         have k3 := hv9.cell 0
         have k4 := hv9.frozen 0
         clear hg hor hv9 k2
         obtain ⟨g', cap', rfl⟩ := ownsRow_succ ho
         clear ho
         go_frame)
      | gi_in)
    refine ⟨((HK9.out.trans (KeepsOthers.setCell _ _ _)).from _), (HK9.out.trans (KeepsOthers.setCell _ _ _)).walks, ⟨⟨_, HV9.out.set 0 _, ?_⟩, HB9.out.setCell (p := ⟨w.heap.size, 0, none⟩) (Nat.le_refl _) _⟩⟩
    have h5 := HO9.out.kept (grownBy_setCell' w9 w.heap.size (.slice (some ⟨g', 0, none⟩) (pre.length + 1) cap')) (Or.inr (ownsRow_other HO9.out HV9.out (fun cur e => by injection e with _ e2; exact absurd e2 (by decide))))
    rw [List.length_append, List.map_append]
    exact h5
  case done =>
    rintro D ys W hD hS ⟨⟨v, hv1, hv2⟩, hb⟩ hK
    have k2 : W.cell? ⟨w.heap.size, 0, none⟩ = some v := hv1.cell 0
    have HV2 := Lib.hid hv2
    have HB := Lib.hid hb
    have HS := Lib.hid hS
    have HK := Lib.hid hK
    have HD : Hid (w.heap.size ≤ D) := by have := HSZ.out; unfold Hid; omega
    clear hv1 hv2 hb hS hK hD
    go_wp2_with fail
    refine ⟨by simp, .inl ⟨_, _, rfl, run_takeDeferred HK.out, ?_⟩⟩
    refine leaves_tmp (p := 4) (v := v) rfl rfl ?_
    exact ⟨v, ys, rfl, HS.out, ownsRow_putObj HV2.out _ HK.out rfl, belowPutW HB.out HD.out _⟩
  case stop =>
    rintro D c pre W hD hpre hF hK
    exact hF.elim

set_option maxRecDepth 100000 in
theorem tkeysCollect_any {w : World} {kb b : Nat} {m : List (Int × Nat)} (hB : Blk w kb 96 #[.map (some b)]) (hM : MapAt (Value.int .i64) ptrV goodI w b m) (hl : m.length ≤ 1099511627776) :
    Calls Tryz.prog 62 #[.func (.func 101) #[] #[.pointer (some ⟨kb, 0, none⟩)]] w fun e w' => ∃ v, ∃ ys : List Int, e = .returned v ∧ ys.Perm (mkeys m) ∧ w'.ownsRow w.heap.size 3 1 v ys.length (ys.map (Value.int .i64)) ∧ Below w.heap.size w w' := by
  have HC := Lib.hid (appendSeqI_any 101 #[.pointer (some ⟨kb, 0, none⟩)] (enters_of Tryz.func101 (by kernel_rfl) rfl) _ _ m.length hl w (tkeys_stops 2 (by decide) kb b m w hB hM))
  clear hB hM
  go_enter Tryz.func62, Tryz.ntmps62
  go_wp2_with fail
  refine HC.out.mono ?_
  rintro e w' ⟨v, ys, rfl, h1, h2, h3⟩
  have H1 := Lib.hid h1
  have H2 := Lib.hid h2
  have H3 := Lib.hid h3
  clear h1 h2 h3 HC
  go_wp2_with fail
  go_ret
  exact ⟨v, ys, rfl, H1.out, H2.out, H3.out⟩

end Go.Proofs.YtpgcghnlepnoiaaGreatDoor
