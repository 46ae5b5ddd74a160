/-
  Several texts in one (merged by a program of mine): IterMap.
-/
import Derived.Test.YtpgcghnlepnoiaaGreatMP39
import Derived.Sort.MapsRangeIn
import Derived.Maps.OwnIn
set_option linter.unusedVariables false
set_option linter.unusedSimpArgs false
set_option linter.unusedSectionVars false
/-
  Ranges over a map under a fence; what the rounds of a range over a function leave.
-/
namespace Go.Proofs.YtpgcghnlepnoiaaGreat
open Go.RowKit

section
variable {κ ν : Type} [DecidableEq κ] {P : Program} {F : Fence} {nF : Nat} {k : TypeId} {ek : κ → Value} {ev : ν → Value} {good : κ → Prop} {w : World}
theorem wpListIn_nextOf (K : KeyOk P k ek good) {ops : Array Oper} {rest : List Oper} {o : Oper} {a : Act} {Q : Exit → Act → World → Prop} (hgd : o.guard = none) (it : Operand) (hop : o.op = Op.next it false)
    (b r : Nat) (m left : List (κ × ν)) (hit : a.eval it = .pointer (some ⟨r, 0, none⟩)) (h : RangeAt ek ev good w b r m left)
    (hDone : left = [] → wpListIn F nF P ops Q rest (a.put o.dst (.tuple #[.bool false])) w)
    (hMore : ∀ x v w', (x, v) ∈ left → RangeAt ek ev good w' b r m (mdel left x) → Only (· = r) w w' → w'.heap.size = w.heap.size → (mdel left x).length < left.length →
      (Instr.entry (.pointer (some ⟨r, 0, none⟩))).run P w' = .ok (.tuple #[ek x, ev v]) w' → wpListIn F nF P ops Q rest (a.put o.dst (.tuple #[.bool true, ek x, ev v])) w') : wpListIn F nF P ops Q (o :: rest) a w := by
  refine wpListIn_plain hgd fun K' hK' => ?_
  unfold Oper.wpIn
  refine ⟨by simp [Oper.about, hop], ?_⟩
  rw [Oper.semAt_plain F _ _ (by rw [hop]; intro c hc'; cases hc')]
  rcases h.step K o.type with ⟨h0, hrun⟩ | ⟨x, v, w', hx, hrun, h1, h2, h3, h4, h5⟩
  · simp [execOp, hop, hit, hrun, Result.andThen]
    exact hK' _ _ (hDone h0)
  · simp [execOp, hop, hit, hrun, Result.andThen]
    exact hK' _ _ (hMore x v w' hx h1 h2 h3 h4 h5)
end
section
variable {κ ν : Type} {P : Program} {F : Fence} {nF : Nat} {k : TypeId} {ek : κ → Value} {ev : ν → Value} {good : κ → Prop} {w : World}
theorem wpListIn_rangeOver {ops : Array Oper} {rest : List Oper} {o : Oper} {a : Act} {Q : Exit → Act → World → Prop} (hgd : o.guard = none) (mo : Operand) (t e : TypeId) (hop : o.op = Op.range t mo)
    (ht : P.underlying t = some (.map k e)) (b : Nat) (m : List (κ × ν)) (hm : a.eval mo = .map (some b)) (h : MapAt ek ev good w b m)
    (hK : ∀ w', RangeAt ek ev good w' b w.heap.size m m → Below w.heap.size w w' → w'.heap.size = w.heap.size + 1 → wpListIn F nF P ops Q rest (a.put o.dst (.pointer (some ⟨w.heap.size, 0, none⟩))) w') : wpListIn F nF P ops Q (o :: rest) a w := by
  refine wpListIn_plain hgd fun K' hK' => ?_
  unfold Oper.wpIn
  refine ⟨by simp [Oper.about, hop], ?_⟩
  rw [Oper.semAt_plain F _ _ (by rw [hop]; intro c hc'; cases hc')]
  obtain ⟨w', hrun, h1, h2, h3⟩ := h.range ht
  simp [execOp, hop, hm, hrun, Result.andThen]
  exact hK' _ _ (hK w' h1 h2 h3)
theorem RangeAt.walks {b r : Nat} {m left : List (κ × ν)} {w' : World} (h : RangeAt ek ev good w b r m left) (hk : KeepsWalks w w') : RangeAt ek ev good w' b r m left := by
  have h' := h
  obtain ⟨es, clock, since, seen, c0, h1, _, _, _, h5, _⟩ := h'
  exact h.block (by rw [h1]; exact hk.same b _ h1 rfl) (by rw [h5]; exact hk.same r _ h5 rfl)
theorem MapAt.walks {b : Nat} {m : List (κ × ν)} {w' : World} (h : MapAt ek ev good w b m) (hk : KeepsWalks w w') : MapAt ek ev good w' b m := by
  have h' := h
  obtain ⟨es, clock, h1, _⟩ := h'
  exact h.block (by rw [h1]; exact hk.same b _ h1 rfl)
theorem RangeAt.walk {b r : Nat} {m left : List (κ × ν)} (h : RangeAt ek ev good w b r m left) : ∃ o : Obj, w.heap[r]? = some o ∧ o.isWalk = true := by
  obtain ⟨es, clock, since, seen, c0, h1, _, _, _, h5, _⟩ := h
  exact ⟨_, h5, rfl⟩
end
theorem Only.one_grown {r : Nat} {w w' : World} (h : Only (· = r) w w') : w.grownBy w' (some r) := ⟨h.os, h.tape, h.output, h.size, fun k hk hne => h.block k hk (fun e => hne (by rw [e]))⟩

/-- what the rounds that collect leave: a box of a slice of its own, and all that lay before -/
structure Collects (E T : TypeId) (size : Nat) (w0 : World) (sb : Nat) (n : Nat) (xs : List Value) (W : World) : Prop where
  has : ∃ v, Blk W sb T #[v] ∧ W.ownsRow w0.heap.size E size v n xs
  below : Below w0.heap.size w0 W
theorem ownsRow_other {W : World} {base : Nat} {e : TypeId} {size : Nat} {v : Value} {k : Nat} {xs : List Value} (h : W.ownsRow base e size v k xs) {j : Nat} {o : Obj} (hj : W.heap[j]? = some o) (hno : ∀ cur, o ≠ .cells cur e (0, 0)) :
    v.ownBlock ≠ some j := by
  rcases h.2 with ⟨rfl, _⟩ | ⟨g, cap, cur, rfl, _, hgb, _⟩
  · simp [Value.ownBlock]
  · intro e'
    have : g = j := by simpa [Value.ownBlock] using e'
    subst this; rw [hgb] at hj; cases hj; exact hno cur rfl
theorem ownsRow_walkless {W : World} {base : Nat} {e : TypeId} {size : Nat} {v : Value} {k : Nat} {xs : List Value} (h : W.ownsRow base e size v k xs) : ∀ (j : Nat) (o : Obj), v.ownBlock = some j → W.heap[j]? = some o → o.isWalk = false := by
  intro j o hj ho
  rcases h.2 with ⟨rfl, _⟩ | ⟨g, cap, cur, rfl, _, hgb, _⟩
  · simp [Value.ownBlock] at hj
  · have : g = j := by simpa [Value.ownBlock] using hj
    subst this; rw [hgb] at ho; cases ho; rfl
theorem ownsRow_cells {W W' : World} {row : Option Nat} {base : Nat} {e : TypeId} {size : Nat} {v : Value} {k : Nat} {xs : List Value} (h : W.ownsRow base e size v k xs) (hg : W.grownBy W' row)
    (hrow : ∀ r, row = some r → ∃ o : Obj, W.heap[r]? = some o ∧ o.isCells = false) : W'.ownsRow base e size v k xs := by
  refine h.kept hg ?_
  rcases h.2 with ⟨rfl, _⟩ | ⟨g, cap, cur, rfl, _, hgb, _⟩
  · exact .inl rfl
  · refine .inr fun e' => ?_
    obtain ⟨o, ho, hw⟩ := hrow g (by simpa [Value.ownBlock] using e'.symm)
    rw [hgb] at ho; cases ho; cases hw
theorem Collects.kept {E T : TypeId} {size : Nat} {w0 : World} {sb n : Nat} {xs : List Value} {A B : World} {row : Option Nat} (h : Collects E T size w0 sb n xs A) (hg : A.grownBy B row) (hr : ∀ r, row = some r → w0.heap.size ≤ r ∧ ∃ o : Obj, A.heap[r]? = some o ∧ o.isCells = false) : Collects E T size w0 sb n xs B := by
  obtain ⟨⟨v, h1, h2⟩, h3⟩ := h
  exact ⟨⟨v, (grownBy_keeps_cells hg (fun r e => (hr r e).2) h1 rfl).trans h1, ownsRow_cells h2 hg fun r e => (hr r e).2⟩, h3.grown hg h3.size fun k hk => (hr k hk).1⟩

theorem ownsRow_isCells {W : World} {base : Nat} {e : TypeId} {size : Nat} {v : Value} {k : Nat} {xs : List Value} (h : W.ownsRow base e size v k xs) : ∀ (j : Nat) (o : Obj), v.ownBlock = some j → W.heap[j]? = some o → o.isCells = true := by
  intro j o hj ho
  rcases h.2 with ⟨rfl, _⟩ | ⟨g, cap, cur, rfl, _, hgb, _⟩
  · simp [Value.ownBlock] at hj
  · have : g = j := by simpa [Value.ownBlock] using hj
    subst this; rw [hgb] at ho; cases ho; rfl
theorem wpListIn_append1_at {P : Program} {F : Fence} {nF : Nat} {w : World} {ops : Array Oper} {rest : List Oper} {o : Oper} {a : Act} {Q : Exit → Act → World → Prop} (hgd : o.guard = none) (s x : Operand) (t : TypeId)
    (ho : o.op = .call { callee := .builtin .append, args := #[s, x], argTypes := #[t, t] })
    (base : Nat) (e : TypeId) (i : TypeInfo) (z : Value) (size bytes : Nat) (ht : P.underlying t = some (.slice e)) (hi : P.info? e = some i) (hz : i.zero = some z)
    (hsize : i.size = size) (hby : i.bytes = bytes) (hzs : z.cells.size = size) (hsz : 0 < size)
    (v : Value) (n : Nat) (xs : List Value) (hs : a.eval s = v) (hown : w.ownsRow base e size v n xs)
    (news : List Value) (hx : a.eval x = .slice (some ⟨w.heap.size, 0, none⟩) 1 1) (hl : news.length = size) (h1 : ∀ u ∈ news, u.oneCell' = true)
    (h63 : n + 1 ≤ maxLen) (hbytes : (n + 1) * bytes ≤ 140737488355328) (hbase : base ≤ w.heap.size)
    (h : ∀ v' w', w'.ownsRow base e size v' (n + 1) (xs ++ news) → (w.alloc (.cells news.toArray e)).grownBy w' v.ownBlock → (v'.ownBlock = v.ownBlock ∨ v'.ownBlock = some (w.heap.size + 1)) → wpListIn F nF P ops Q rest (a.put o.dst v') w') :
    wpListIn F nF P ops Q (o :: rest) a (w.alloc (.cells news.toArray e)) := by
  refine wpListIn_append_own_at _ hgd s x t ho base e i z size bytes ht hi hz hsize hby hzs hsz v n xs hs (hown.alloc _) ⟨w.heap.size, 0, none⟩ 1 1 news hx (by rw [hl, Nat.one_mul]) ?_ h1 h63 hbytes (by simp; omega) ?_
  · intro j u hu
    rw [show (⟨w.heap.size, 0, none⟩ : Addr).add j = ⟨w.heap.size, j, none⟩ from by unfold Addr.add; split <;> simp_all]
    rw [cell_of_row _ w.heap.size j news.toArray e (0, 0) (heap_alloc_new w _)]
    simpa using hu
  · intro v' w' hown' hg _ hat
    exact h v' w' hown' hg (by simpa using hat)
/-- a function's result that lies in a slot -/
theorem leaves_tmp {P : Program} {fn : Func} {R : Ending → World → Prop} {p : Tmp} {tmps : Array Value} {w : World} {v : Value} (h : fn.results = #[.tmp p]) (hp : tmps.getD p undef = v) (hR : R (.returned v) w) : LeavesInM Fence.wide 3 P fn tmps R [] .returning w := by
  refine ⟨v, ?_, hR⟩
  have hp' : tmps[p]?.getD undef = v := by simpa using hp
  simp [results, h, hp']

end Go.Proofs.YtpgcghnlepnoiaaGreat
