/-
  A slot (a number and a flag) in memory; slots as an object.
-/
import Derived.Test.YtmocljblfccglaaOwn
namespace Go.Proofs.Ytmocljblfccglaa
open Go.RowKit

theorem slot_info : (Try.prog.info? 78).map (·.size) = some 2 := by kernel_rfl
@[go_sem ↓] theorem loadAt_slot (v : Value) : Instr.loadAt 78 v = rowLoad 78 v := rfl
@[go_sem ↓] theorem storeAt_slot (p v : Value) : Instr.storeAt 78 p v = rowStore 78 p v := rfl
@[go_sem] theorem run_load_slot (w : World) (g o : Nat) : (rowLoad 78 (.pointer (some ⟨g, o, none⟩))).run Try.prog w = match row? w g o 2 with | some cs => .ok (.agg cs) w | none => (slowLoad 78 ⟨g, o, none⟩).run Try.prog w :=
  run_rowLoad w _ g o 2 _ Try.underlying78 rfl slot_info
/-- two cells stored -/
def put2 (w : World) (g o : Nat) (a b : Value) : World :=
  { w with heap := w.heap.modify g fun
      | .cells cs e fr => .cells ((cs.setIfInBounds o a).setIfInBounds (o + 1) b) e fr
      | x => x }
theorem put2_set (w : World) (g o : Nat) (a b : Value) : put2 w g o a b = (w.setCell ⟨g, o, none⟩ a).setCell ⟨g, o + 1, none⟩ b := by
  unfold put2 World.setCell
  simp only
  congr 1
  apply Array.ext_getElem?
  intro k
  simp only [Array.getElem?_modify]
  split
  · cases w.heap[k]? with
    | none => rfl
    | some x => cases x <;> rfl
  · rfl
theorem set_two (cs : Array Value) (o : Nat) (a b : Value) (h : o + 2 ≤ cs.size) : (List.take o cs.toList ++ a :: b :: List.drop (o + 2) cs.toList).toArray = (cs.setIfInBounds o a).setIfInBounds (o + 1) b := by
  apply Array.ext'
  apply List.ext_getElem?
  intro j
  have hl : (List.take o cs.toList).length = o := by rw [List.length_take]; simp; omega
  rw [Array.toList_setIfInBounds, Array.toList_setIfInBounds, List.getElem?_set, List.getElem?_set, List.length_set]
  simp only [Array.length_toList]
  rcases Nat.lt_trichotomy j o with h1 | h1 | h1
  · rw [List.getElem?_append_left (by omega), if_neg (by omega), if_neg (by omega), List.getElem?_take, if_pos h1]
  · rw [List.getElem?_append_right (by omega), hl, h1, Nat.sub_self, if_neg (by omega), if_pos rfl, if_pos (by omega)]; rfl
  · rw [List.getElem?_append_right (by omega), hl]
    by_cases h2 : j = o + 1
    · rw [h2, if_pos rfl, if_pos (by omega), show o + 1 - o = 1 from by omega]; rfl
    · rw [if_neg (by omega), if_neg (by omega), show j - o = (j - o - 2) + 2 from by omega, List.getElem?_cons_succ, List.getElem?_cons_succ, List.getElem?_drop, show o + 2 + (j - o - 2) = j from by omega]
@[go_sem] theorem run_store_slot (w : World) (g o : Nat) (x : Int) (b : Bool) : (rowStore 78 (.pointer (some ⟨g, o, none⟩)) (.agg #[.int .i64 x, .bool b])).run Try.prog w =
    if fits w g o 2 = true then .ok () (put2 w g o (.int .i64 x) (.bool b)) else (slowStore 78 g o (.agg #[.int .i64 x, .bool b])).run Try.prog w := by
  split
  · rename_i hf
    unfold fits at hf
    split at hf
    · rename_i cs e hg
      have hn : o + 2 ≤ cs.size := by simpa using hf
      cases hq : Try.prog.info? 78 with
      | none => have := slot_info; simp [hq] at this
      | some i =>
        have hs : i.size = 2 := by have := slot_info; simpa [hq] using this
        have hst := run_storeCells_at Try.prog g o e [.int .i64 x, .bool b] 0 cs w hg (by simp; omega) (by intro v hv; simp at hv; rcases hv with rfl | rfl <;> rfl)
        have hlen : (#[Value.int .i64 x, .bool b] : Array Value).size = i.size := by rw [hs]; rfl
        simp only [rowStore, Instr.storeAt, Instr.sureAddr, storeVar, Sem.run_bind, sizeOf, typeInfo, run_program, Result.andThen_ok, hq, Sem.run_pure, Value.cells, hlen, ne_eq, not_true_eq_false, if_false, hst]
        congr 1
        unfold put2 World.setRow
        congr 1
        apply Array.ext_getElem?
        intro k
        rw [Array.getElem?_modify, Array.getElem?_modify]
        split
        · rename_i hk
          subst hk
          rw [hg]
          simp
          exact set_two cs o _ _ hn
        · rfl
    · cases hf
  · rfl
theorem eql_slot (a c : Int) (b d : Bool) (w : World) : (binOp .eql 78 (.agg #[.int .i64 a, .bool b]) (.agg #[.int .i64 c, .bool d])).run Try.prog w = .ok (.bool (decide (a = c) && decide (b = d))) w := by
  have hS : Try.prog.underlying 78 = some (.struct (Try.prog.fieldsOf 78)) := by kernel_rfl
  have hp : Try.prog.stoodInHeld 78 = false := by kernel_rfl
  have u3 := Try.underlying3
  have u4 := Try.underlying4
  have a3 := Try.isAgg3
  have z3 := Try.sizeOf3
  have a4 := Try.isAgg4
  have z4 := Try.sizeOf4
  rw [run_eql_struct, show (10000 : Nat) = 9999 + 1 from rfl, run_equalIn_agg w 9999 78 _ _ hS hp]
  simp only [Program.fieldsOf, Try.underlying78]
  go_simp
  by_cases h1 : a = c <;> by_cases h2 : b = d <;> simp [h1, h2]

/-- a slot's cells -/
def slotC (x : Int × Bool) : List Value := [.int .i64 x.1, .bool x.2]
theorem slotC_len (x : Int × Bool) : (slotC x).length = 2 := rfl

/-- the slots ls, at p; what is theirs is in F -/
def SlotsAt (w : World) (p : Nat) (ls : List (Int × Bool)) (F : Nat → Prop) : Prop :=
  ∃ v, Blk w p 76 #[v] ∧ w.ownsRow 0 78 2 v ls.length (ls.flatMap slotC) ∧ v.ownBlock ≠ some p ∧ F p ∧ ∀ k, v.ownBlock = some k → F k

theorem SlotsAt.only {w w' : World} {p : Nat} {ls : List (Int × Bool)} {F G : Nat → Prop} (h : SlotsAt w p ls F) (ho : Only G w w') (hd : ∀ k, F k → ¬ G k) : SlotsAt w' p ls F := by
  obtain ⟨v, h1, h2, h3, h4, h5⟩ := h
  exact ⟨v, ho.blk h1 (hd p h4), ho.own h2 fun k hk => hd k (h5 k hk), h3, h4, h5⟩
theorem SlotsAt.mono {w : World} {p : Nat} {ls : List (Int × Bool)} {F G : Nat → Prop} (h : SlotsAt w p ls F) (hd : ∀ k, k < w.heap.size → F k → G k) : SlotsAt w p ls G := by
  obtain ⟨v, h1, h2, h3, h4, h5⟩ := h
  exact ⟨v, h1, h2, h3, hd p h1.lt h4, fun k hk => hd k (h2.lt k hk).2 (h5 k hk)⟩
theorem SlotsAt.lt {w : World} {p : Nat} {ls : List (Int × Bool)} {F : Nat → Prop} (h : SlotsAt w p ls F) : p < w.heap.size := by
  obtain ⟨v, h1, _⟩ := h; exact h1.lt
/-- what is read of them -/
theorem SlotsAt.facts {w : World} {p : Nat} {ls : List (Int × Bool)} {F : Nat → Prop} (h : SlotsAt w p ls F) :
    ∃ A c, w.cell? ⟨p, 0, none⟩ = some (.slice A ls.length c) ∧ w.frozen? ⟨p, 0, none⟩ = false ∧ ls.length ≤ c ∧ c ≤ maxLen ∧
      w.ownsRow 0 78 2 (.slice A ls.length c) ls.length (ls.flatMap slotC) ∧ (Value.slice A ls.length c).ownBlock ≠ some p ∧
      ∀ k, k < ls.length → ∃ g, A = some ⟨g, 0, none⟩ ∧ g ≠ p ∧ F g ∧ g < w.heap.size ∧ w.frozen? ⟨g, k * 2, none⟩ = false ∧ w.frozen? ⟨g, k * 2 + 1, none⟩ = false ∧ fits w g (k * 2) 2 = true ∧
        row? w g (k * 2) 2 = some #[.int .i64 (ls.getD k (0, false)).1, .bool (ls.getD k (0, false)).2] ∧
        w.cell? ⟨g, k * 2, none⟩ = some (.int .i64 (ls.getD k (0, false)).1) ∧ w.cell? ⟨g, k * 2 + 1, none⟩ = some (.bool (ls.getD k (0, false)).2) := by
  obtain ⟨v, h1, h2, h3, h4, h5⟩ := h
  obtain ⟨A, c, rfl, hc1, hc2, hA⟩ := own_form h2
  refine ⟨A, c, h1.cell 0, h1.frozen 0, hc1, hc2, h2, h3, fun k hk => ?_⟩
  obtain ⟨g, rfl⟩ := hA (by omega)
  have hgd : ls.getD k (0, false) = ls[k] := by simp [List.getD, List.getElem?_eq_getElem hk]
  rw [hgd]
  have hr := own_row h2 hk
  rw [flat_at slotC_len ls k hk] at hr
  have hk2 : k * 2 + 2 ≤ ls.length * 2 := by omega
  have hf : fits w g (k * 2) 2 = true := by
    obtain ⟨_, h0 | ⟨g', cap, cur, e1, _, hg, h3', _, h5', _⟩⟩ := h2
    · cases h0.1
    · injection e1 with e1 e2 e3
      injection e1 with e1
      injection e1 with e1
      subst e1
      unfold fits
      rw [hg]
      simp; omega
  refine ⟨g, rfl, fun e => h3 (by rw [e]; rfl), h5 g rfl, (h2.lt g rfl).2, h2.frozenAt _, h2.frozenAt _, hf, hr, ?_, ?_⟩
  · rw [h2.cellAt (k * 2) (by omega), ← Nat.add_zero (k * 2), flat_get slotC_len ls k 0 hk (by omega)]; rfl
  · rw [h2.cellAt (k * 2 + 1) (by omega), flat_get slotC_len ls k 1 hk (by omega)]; rfl
/-- a slot written -/
theorem SlotsAt.put {w : World} {p : Nat} {ls : List (Int × Bool)} {F : Nat → Prop} (h : SlotsAt w p ls F) {g k c : Nat} (hk : k < ls.length) (hg : w.cell? ⟨p, 0, none⟩ = some (.slice (some ⟨g, 0, none⟩) ls.length c)) (x : Int) (b : Bool) :
    SlotsAt (put2 w g (k * 2) (.int .i64 x) (.bool b)) p (ls.set k (x, b)) F ∧ Only F w (put2 w g (k * 2) (.int .i64 x) (.bool b)) := by
  obtain ⟨v, h1, h2, h3, h4, h5⟩ := h
  have hv : v = .slice (some ⟨g, 0, none⟩) ls.length c := by
    have := h1.cell 0
    rw [hg] at this
    simpa using this.symm
  subst hv
  rw [put2_set]
  have s1 := h2.stored (k * 2) (.int .i64 x)
  have s2 := s1.1.stored (k * 2 + 1) (.bool b)
  have hne : p ≠ g := fun e => h3 (by rw [← e]; rfl)
  refine ⟨⟨_, (h1.far hne _ _).far hne _ _, ?_, h3, h4, h5⟩, (Only.refl.setCell (Or.inl (h5 g rfl)) _ _).setCell (Or.inl (h5 g rfl)) _ _⟩
  have := s2.1
  rw [← Nat.add_zero (k * 2), flat_set slotC_len ls k 0 (x, ls[k].2) (.int .i64 x) hk (by omega) rfl,
    flat_set slotC_len (ls.set k (x, ls[k].2)) k 1 (x, b) (.bool b) (by simpa using hk) (by omega) (by simp [slotC])] at this
  rw [List.set_set] at this
  rw [List.length_set]
  exact this
/-- a flag set -/
theorem SlotsAt.live {w : World} {p : Nat} {ls : List (Int × Bool)} {F : Nat → Prop} (h : SlotsAt w p ls F) {g k c : Nat} (hk : k < ls.length) (hg : w.cell? ⟨p, 0, none⟩ = some (.slice (some ⟨g, 0, none⟩) ls.length c)) (b : Bool) :
    SlotsAt (w.setCell ⟨g, k * 2 + 1, none⟩ (.bool b)) p (ls.set k ((ls.getD k (0, false)).1, b)) F ∧ Only F w (w.setCell ⟨g, k * 2 + 1, none⟩ (.bool b)) := by
  obtain ⟨v, h1, h2, h3, h4, h5⟩ := h
  have hv : v = .slice (some ⟨g, 0, none⟩) ls.length c := by
    have := h1.cell 0
    rw [hg] at this
    simpa using this.symm
  subst hv
  have s2 := h2.stored (k * 2 + 1) (.bool b)
  have hne : p ≠ g := fun e => h3 (by rw [← e]; rfl)
  have hgd : ls.getD k (0, false) = ls[k] := by simp [List.getD, List.getElem?_eq_getElem hk]
  refine ⟨⟨_, h1.far hne _ _, ?_, h3, h4, h5⟩, Only.refl.setCell (Or.inl (h5 g rfl)) _ _⟩
  have := s2.1
  rw [flat_set slotC_len ls k 1 (ls[k].1, b) (.bool b) hk (by omega) rfl] at this
  rw [List.length_set, hgd]
  exact this

end Go.Proofs.Ytmocljblfccglaa
