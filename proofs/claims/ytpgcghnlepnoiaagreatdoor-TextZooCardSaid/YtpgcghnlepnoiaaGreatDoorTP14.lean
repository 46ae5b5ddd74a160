/-
  Several texts in one (merged by a program of mine): Own, Col, Handles, SlotMem, Sep, SepMore, CloneInt, CloneHandle, SlotCalls, ChunkUse.
-/
import Derived.Test.YtpgcghnlepnoiaaGreatDoorTP13
import Derived.Maps.AppendAt
import Derived.Laws.OwnMore
import Derived.WalkSmall
set_option linter.unusedVariables false
set_option linter.unusedSimpArgs false
set_option linter.unusedSectionVars false
/-
  What a call may write, and slices of one's own whose elements are rows of cells.
-/
namespace Go.Proofs.YtpgcghnlepnoiaaGreatDoor
open Go.RowKit

/-- of the blocks that were there only those of F are turned -/
structure Only (F : Nat → Prop) (w w' : World) : Prop where
  os : w'.os = w.os
  tape : w'.tape = w.tape
  output : w'.output = w.output
  size : w.heap.size ≤ w'.heap.size
  block : ∀ k, k < w.heap.size → ¬ F k → w'.heap[k]? = w.heap[k]?
namespace Only
variable {F G : Nat → Prop} {w w' w'' : World}
theorem refl : Only F w w := ⟨rfl, rfl, rfl, Nat.le_refl _, fun _ _ _ => rfl⟩
theorem trans (h : Only F w w') (h' : Only F w' w'') : Only F w w'' :=
  ⟨h'.os.trans h.os, h'.tape.trans h.tape, h'.output.trans h.output, Nat.le_trans h.size h'.size, fun k hk hF => (h'.block k (Nat.lt_of_lt_of_le hk h.size) hF).trans (h.block k hk hF)⟩
/-- .. where the second writes what is new, too -/
theorem trans' (h : Only F w w') (h' : Only G w' w'') (hG : ∀ k, k < w.heap.size → G k → F k) : Only F w w'' :=
  ⟨h'.os.trans h.os, h'.tape.trans h.tape, h'.output.trans h.output, Nat.le_trans h.size h'.size, fun k hk hF => (h'.block k (Nat.lt_of_lt_of_le hk h.size) fun hg => hF (hG k hk hg)).trans (h.block k hk hF)⟩
theorem mono (h : Only F w w') (hG : ∀ k, k < w.heap.size → F k → G k) : Only G w w' :=
  ⟨h.os, h.tape, h.output, h.size, fun k hk hF => h.block k hk fun hf => hF (hG k hk hf)⟩
theorem of_below (h : Below w.heap.size w w') : Only F w w' := ⟨h.os, h.tape, h.output, h.size, fun k hk _ => h.block k hk⟩
theorem below (h : Only F w w') {B : Nat} (hB : B ≤ w.heap.size) (hF : ∀ k, k < w.heap.size → F k → B ≤ k) : Below B w w' :=
  ⟨h.os, h.tape, h.output, h.size, fun k hk => h.block k (by omega) fun hf => absurd (hF k (by omega) hf) (by omega)⟩
theorem grown {row : Option Nat} (h : w.grownBy w' row) (hF : ∀ k, row = some k → F k) : Only F w w' :=
  ⟨h.os, h.tape, h.output, h.size, fun k hk hf => h.block k hk fun e => hf (hF k e.symm)⟩
theorem to_grown (h : Only F w w') (hF : ∀ k, k < w.heap.size → F k → False) : w.grownBy w' none := ⟨h.os, h.tape, h.output, h.size, fun k hk _ => h.block k hk fun hf => hF k hk hf⟩
theorem setCell (h : Only F w w') {g : Nat} (hg : F g ∨ w.heap.size ≤ g) (o : Nat) (v : Value) : Only F w (w'.setCell ⟨g, o, none⟩ v) :=
  ⟨h.os, h.tape, h.output, by simpa using h.size, fun k hk hf => (Below.heap_setCell w' ⟨g, o, none⟩ v k (by rintro rfl; rcases hg with hg | hg; exact hf hg; exact absurd hk (by omega))).trans (h.block k hk hf)⟩
theorem drew (h : Only F w w') : Only F w w'.drew := ⟨h.os, h.tape, h.output, h.size, h.block⟩
theorem alloc (h : Only F w w') (o : Obj) : Only F w (w'.alloc o) :=
  ⟨h.os, h.tape, h.output, by simp; have := h.size; omega, fun k hk hf => (Below.heap_alloc w' o k (by have := h.size; omega)).trans (h.block k hk hf)⟩
theorem blk (h : Only F w w') {g : Nat} {t : TypeId} {cs : Array Value} (hb : Blk w g t cs) (hg : ¬ F g) : Blk w' g t cs := (h.block g hb.lt hg).trans hb
theorem own (h : Only F w w') {B : Nat} {e : TypeId} {size n : Nat} {v : Value} {xs : List Value} (ho : w.ownsRow B e size v n xs) (hg : ∀ k, v.ownBlock = some k → ¬ F k) : w'.ownsRow B e size v n xs := by
  refine ⟨ho.1, ?_⟩
  rcases ho.2 with h0 | ⟨g, cap, cur, rfl, hb, hg', r⟩
  · exact Or.inl h0
  · exact Or.inr ⟨g, cap, cur, rfl, hb, (h.block g (Array.getElem?_eq_some_iff.1 hg').1 (hg g rfl)).trans hg', r⟩
end Only

/-- a slice's form, and its rows -/
theorem own_form {w : World} {B : Nat} {e : TypeId} {size n : Nat} {v : Value} {xs : List Value} (h : w.ownsRow B e size v n xs) : ∃ A c, v = .slice A n c ∧ n ≤ c ∧ c ≤ maxLen ∧ (0 < n → ∃ g, A = some ⟨g, 0, none⟩) := by
  rcases h.2 with ⟨rfl, h0⟩ | ⟨g, cap, cur, rfl, _, _, h1, h2, _⟩
  · exact ⟨none, 0, by rw [h0], by omega, by decide, fun h => by omega⟩
  · exact ⟨_, cap, rfl, h1, h2, fun _ => ⟨g, rfl⟩⟩
theorem own_row {w : World} {B : Nat} {e : TypeId} {size n c g : Nat} {xs : List Value} (h : w.ownsRow B e size (.slice (some ⟨g, 0, none⟩) n c) n xs) {k : Nat} (hk : k < n) :
    row? w g (k * size) size = some ((xs.drop (k * size)).take size).toArray := by
  obtain ⟨h1, h2 | ⟨g', cap, cur, e1, _, hg, h3, _, h5, h6⟩⟩ := h
  · cases h2.1
  · injection e1 with e1 e2 e3
    injection e1 with e1
    injection e1 with e1
    subst e1
    unfold row?
    rw [hg]
    simp only
    have hle : (k + 1) * size ≤ cap * size := Nat.mul_le_mul_right _ (by omega)
    have hle2 : (k + 1) * size ≤ n * size := Nat.mul_le_mul_right _ (by omega)
    rw [Nat.add_mul, Nat.one_mul] at hle hle2
    rw [if_pos (by omega)]
    congr 1
    apply Array.ext'
    rw [Array.toList_extract, List.extract_eq_take_drop, Nat.add_sub_cancel_left, ← h6]
    simp only [List.drop_take, List.take_take]
    congr 1
    omega

/-- one element (of as many cells as it has) appended to a slice of the call's own: where the row lies behind it -/
theorem wpList_append1_at {P : Program} {w : World} {ops : Array Oper} {rest : List Oper} {o : Oper} {a : Act} {Q : Exit → Act → World → Prop} (hgd : o.guard = none) (s x : Operand) (t : TypeId)
    (ho : o.op = .call { callee := .builtin .append, args := #[s, x], argTypes := #[t, t] })
    (base : Nat) (e : TypeId) (i : TypeInfo) (z : Value) (size bytes : Nat) (ht : P.underlying t = some (.slice e)) (hi : P.info? e = some i) (hz : i.zero = some z)
    (hsize : i.size = size) (hby : i.bytes = bytes) (hzs : z.cells.size = size) (hsz : 0 < size)
    (v : Value) (n : Nat) (xs : List Value) (hs : a.eval s = v) (hown : w.ownsRow base e size v n xs)
    (news : List Value) (hx : a.eval x = .slice (some ⟨w.heap.size, 0, none⟩) 1 1) (hl : news.length = size) (h1 : ∀ u ∈ news, u.oneCell' = true)
    (h63 : n + 1 ≤ maxLen) (hbytes : (n + 1) * bytes ≤ 140737488355328) (hbase : base ≤ w.heap.size)
    (h : ∀ v' w', w'.ownsRow base e size v' (n + 1) (xs ++ news) → (w.alloc (.cells news.toArray e)).grownBy w' v.ownBlock → (v'.ownBlock = v.ownBlock ∨ v'.ownBlock = some (w.heap.size + 1)) → wpList P ops Q rest (a.put o.dst v') w') :
    wpList P ops Q (o :: rest) a (w.alloc (.cells news.toArray e)) := by
  refine wpList_append_own_at _ hgd s x t ho base e i z size bytes ht hi hz hsize hby hzs hsz v n xs hs (hown.alloc _) ⟨w.heap.size, 0, none⟩ 1 1 news hx (by rw [hl, Nat.one_mul]) ?_ h1 h63 hbytes (by simp; omega) ?_
  · intro j u hu
    rw [show (⟨w.heap.size, 0, none⟩ : Addr).add j = ⟨w.heap.size, j, none⟩ from by unfold Addr.add; split <;> simp_all]
    rw [cell_of_row _ w.heap.size j news.toArray e (0, 0) (heap_alloc_new w _)]
    simpa using hu
  · intro v' w' hown' hg _ hat
    exact h v' w' hown' hg (by simpa using hat)

/-- rows of cells in a row -/
theorem flat_len {α : Type} {size : Nat} {f : α → List Value} (hf : ∀ x, (f x).length = size) (l : List α) : (l.flatMap f).length = l.length * size := by
  induction l with
  | nil => simp
  | cons a l ih => rw [List.flatMap_cons, List.length_append, ih, hf, List.length_cons, Nat.add_mul]; omega
theorem flat_at {α : Type} {size : Nat} {f : α → List Value} (hf : ∀ x, (f x).length = size) : ∀ (l : List α) (k : Nat) (h : k < l.length), ((l.flatMap f).drop (k * size)).take size = f l[k]
  | a :: l, 0, _ => by rw [List.flatMap_cons, Nat.zero_mul, List.drop_zero]; rw [List.take_append_of_le_length (by rw [hf]; exact Nat.le_refl _), ← hf a, List.take_length]; rfl
  | a :: l, k + 1, h => by
    rw [List.flatMap_cons, Nat.add_mul, Nat.one_mul, Nat.add_comm, ← hf a, List.drop_append, List.drop_of_length_le (by omega), List.nil_append, Nat.add_sub_cancel_left, hf a]
    exact flat_at hf l k (by simpa using h)
theorem flat_get {α : Type} {size : Nat} {f : α → List Value} (hf : ∀ x, (f x).length = size) (l : List α) (k j : Nat) (h : k < l.length) (hj : j < size) : (l.flatMap f)[k * size + j]? = (f l[k])[j]? := by
  rw [← flat_at hf l k h, List.getElem?_take, if_pos hj, List.getElem?_drop]
theorem flat_set {α : Type} {size : Nat} {f : α → List Value} (hf : ∀ x, (f x).length = size) : ∀ (l : List α) (k j : Nat) (y : α) (u : Value) (h : k < l.length), j < size → f y = (f l[k]).set j u → (l.flatMap f).set (k * size + j) u = (l.set k y).flatMap f
  | a :: l, 0, j, y, u, _, hj, hy => by
    simp only [List.getElem_cons_zero] at hy
    rw [List.flatMap_cons, Nat.zero_mul, Nat.zero_add, List.set_append_left _ _ (by rw [hf]; exact hj), ← hy]; rfl
  | a :: l, k + 1, j, y, u, h, hj, hy => by
    rw [List.flatMap_cons, List.set_append_right _ _ (by rw [hf, Nat.add_mul]; omega), hf]
    rw [show (k + 1) * size + j - size = k * size + j from by rw [Nat.add_mul]; omega]
    rw [flat_set hf l k j y u (by simpa using h) hj (by simpa using hy)]
    rfl

theorem own_below {w w' : World} {B : Nat} {e : TypeId} {size n : Nat} {v : Value} {xs : List Value} (h : w.ownsRow B e size v n xs) (hb : Below w.heap.size w w') : w'.ownsRow B e size v n xs :=
  h.kept (row := none) ⟨hb.os, hb.tape, hb.output, hb.size, fun k hk _ => hb.block k hk⟩ (by cases v.ownBlock <;> simp)

/-- a handle's cells -/
def hC (h : Int × Int) : List Value := [.int .i64 h.1, .int .i64 h.2]
theorem hC_len (h : Int × Int) : (hC h).length = 2 := rfl
def hL (h : Int × Int) : List Int := [h.1, h.2]
theorem hL_len (h : Int × Int) : (hL h).length = 2 := rfl

end Go.Proofs.YtpgcghnlepnoiaaGreatDoor

/-
  A struct of one slice, behind a pointer: read, appended to, written, cut.
-/
namespace Go.Proofs.YtpgcghnlepnoiaaGreatDoor
open Go.RowKit

/-- the one cell of block p is a slice of one's own, that reads as xs; what is theirs is in F -/
def ColAt {α : Type} (T E : TypeId) (size : Nat) (enc : α → List Value) (w : World) (p : Nat) (xs : List α) (F : Nat → Prop) : Prop :=
  ∃ v, Blk w p T #[v] ∧ w.ownsRow 0 E size v xs.length (xs.flatMap enc) ∧ v.ownBlock ≠ some p ∧ F p ∧ ∀ k, v.ownBlock = some k → F k

section
variable {α : Type} {T E : TypeId} {size : Nat} {enc : α → List Value} {w w' w3 : World} {p : Nat} {xs : List α} {F G : Nat → Prop}

theorem ColAt.only (h : ColAt T E size enc w p xs F) (ho : Only G w w') (hd : ∀ k, F k → ¬ G k) : ColAt T E size enc w' p xs F := by
  obtain ⟨v, h1, h2, h3, h4, h5⟩ := h
  exact ⟨v, ho.blk h1 (hd p h4), ho.own h2 fun k hk => hd k (h5 k hk), h3, h4, h5⟩
theorem ColAt.mono (h : ColAt T E size enc w p xs F) (hd : ∀ k, k < w.heap.size → F k → G k) : ColAt T E size enc w p xs G := by
  obtain ⟨v, h1, h2, h3, h4, h5⟩ := h
  exact ⟨v, h1, h2, h3, hd p h1.lt h4, fun k hk => hd k (h2.lt k hk).2 (h5 k hk)⟩
theorem ColAt.lt (h : ColAt T E size enc w p xs F) : p < w.heap.size := by
  obtain ⟨v, h1, _⟩ := h; exact h1.lt
theorem ColAt.after (h : ColAt T E size enc w p xs F) (hb : Below w.heap.size w w') : ColAt T E size enc w' p xs F := by
  obtain ⟨v, h1, h2, h3, h4, h5⟩ := h
  exact ⟨v, h1.after hb, h2.kept (row := none) ⟨hb.os, hb.tape, hb.output, hb.size, fun k hk _ => hb.block k hk⟩ (by cases v.ownBlock <;> simp), h3, h4, h5⟩
/-- what lies there -/
theorem ColAt.slice (h : ColAt T E size enc w p xs F) : ∃ A c, w.cell? ⟨p, 0, none⟩ = some (.slice A xs.length c) ∧ w.frozen? ⟨p, 0, none⟩ = false ∧ xs.length ≤ c ∧ c ≤ maxLen ∧
    w.ownsRow 0 E size (.slice A xs.length c) xs.length (xs.flatMap enc) ∧ (Value.slice A xs.length c).ownBlock ≠ some p ∧ F p ∧ ∀ k, (Value.slice A xs.length c).ownBlock = some k → F k := by
  obtain ⟨v, h1, h2, h3, h4, h5⟩ := h
  obtain ⟨A, c, rfl, hc1, hc2, hA⟩ := own_form h2
  exact ⟨A, c, h1.cell 0, h1.frozen 0, hc1, hc2, h2, h3, h4, h5⟩

/-- 'x.l = append(x.l, e)': behind the append; and behind the store -/
theorem ColAt.append (h : ColAt T E size enc w p xs F) {v v' : Value} {o : Obj} {x : α} (hv : w.cell? ⟨p, 0, none⟩ = some v) (hown3 : w3.ownsRow 0 E size v' (xs.length + 1) (xs.flatMap enc ++ enc x)) (hg3 : (w.alloc o).grownBy w3 v.ownBlock)
    (hat : v'.ownBlock = v.ownBlock ∨ v'.ownBlock = some (w.heap.size + 1)) :
    w3.cell? ⟨p, 0, none⟩ = some v ∧ w3.frozen? ⟨p, 0, none⟩ = false ∧ ColAt T E size enc (w3.setCell ⟨p, 0, none⟩ v') p (xs ++ [x]) (fun k => F k ∨ w.heap.size ≤ k) ∧ Only F w (w3.setCell ⟨p, 0, none⟩ v') := by
  obtain ⟨u, h1, h2, h3, h4, h5⟩ := h
  have hu : u = v := by have := h1.cell 0; rw [hv] at this; simpa using this.symm
  subst hu
  have hO3 : Only (fun k => u.ownBlock = some k) w w3 := (Only.refl.alloc _).trans (Only.grown hg3 fun k hk => hk)
  have hB3 := hO3.blk h1 h3
  have hN3 : v'.ownBlock ≠ some p := by
    rcases hat with e | e
    · rw [e]; exact h3
    · rw [e]; intro h; injection h with h; have := h1.lt; omega
  refine ⟨hB3.cell 0, hB3.frozen 0, ⟨_, hB3.set 0 _, ?_, hN3, Or.inl h4, fun k hk => ?_⟩, (hO3.mono fun k _ hk => h5 k hk).setCell (Or.inl h4) _ _⟩
  · rw [List.length_append, List.flatMap_append]
    have := ownsRow_setCell_other (a := ⟨p, 0, none⟩) hown3 hN3 v'
    simpa using this
  · rcases hat with e | e
    · rw [e] at hk; exact Or.inl (h5 k hk)
    · rw [e] at hk; injection hk with hk; exact Or.inr (by omega)
end

end Go.Proofs.YtpgcghnlepnoiaaGreatDoor

/-
  Slices of handles of the call's own.
-/
namespace Go.Proofs.YtpgcghnlepnoiaaGreatDoor
open Go.RowKit

/-- a slice of handles of the call's own, that reads as hs -/
def OwnH (w : World) (B : Nat) (v : Value) (hs : List (Int × Int)) : Prop := w.ownsRow B 46 2 v hs.length (hs.flatMap hC)
theorem OwnH.nil (w : World) (B : Nat) : OwnH w B (.slice none 0 0) [] := World.ownsRow_nil _ _ _ _
theorem OwnH.kept {w w' : World} {B : Nat} {v : Value} {hs : List (Int × Int)} (h : OwnH w B v hs) (hb : Below w.heap.size w w') : OwnH w' B v hs := own_below h hb
theorem OwnH.form {w : World} {B : Nat} {v : Value} {hs : List (Int × Int)} (h : OwnH w B v hs) : ∃ A c, v = .slice A hs.length c ∧ ∀ k, k < hs.length → ∃ g, A = some ⟨g, 0, none⟩ ∧ B ≤ g ∧ g < w.heap.size ∧
    row? w g (k * 2) 2 = some (ints [(hs.getD k (0, 0)).1, (hs.getD k (0, 0)).2]) ∧ w.cell? ⟨g, k * 2, none⟩ = some (.int .i64 (hs.getD k (0, 0)).1) ∧ w.cell? ⟨g, k * 2 + 1, none⟩ = some (.int .i64 (hs.getD k (0, 0)).2) := by
  obtain ⟨A, c, rfl, hc1, hc2, hA⟩ := own_form h
  refine ⟨A, c, rfl, fun k hk => ?_⟩
  obtain ⟨g, rfl⟩ := hA (by omega)
  have hgd : hs.getD k (0, 0) = hs[k] := by simp [List.getD, List.getElem?_eq_getElem hk]
  have hr := own_row h hk
  rw [flat_at hC_len hs k hk] at hr
  have hlt := h.lt g rfl
  refine ⟨g, rfl, hlt.1, hlt.2, by rw [hgd]; exact hr, ?_, ?_⟩
  · rw [World.ownsRow.cellAt h (k * 2) (by omega), ← Nat.add_zero (k * 2), flat_get hC_len hs k 0 hk (by omega), hgd]; rfl
  · rw [World.ownsRow.cellAt h (k * 2 + 1) (by omega), flat_get hC_len hs k 1 hk (by omega), hgd]; rfl

theorem handle_parts : (Tryz.prog.info? 46).map (fun i => (i.zero, i.size, i.bytes)) = some (some (.agg #[.int .i64 0, .int .i64 0]), 2, 16) := by kernel_rfl

/-- one handle appended -/
theorem wpList_append_h {w : World} {ops : Array Oper} {rest : List Oper} {o : Oper} {a : Act} {Q : Exit → Act → World → Prop} (hgd : o.guard = none) (s x : Operand)
    (ho : o.op = .call { callee := .builtin .append, args := #[s, x], argTypes := #[119, 119] })
    (base : Nat) (v : Value) (hs : List (Int × Int)) (hv : a.eval s = v) (hown : OwnH w base v hs) (y : Int × Int) (hx : a.eval x = .slice (some ⟨w.heap.size, 0, none⟩) 1 1)
    (hlen : hs.length + 1 ≤ 1000000) (hbase : base ≤ w.heap.size)
    (h : ∀ v' w', OwnH w' base v' (hs ++ [y]) → (w.alloc (.cells #[.int .i64 y.1, .int .i64 y.2] 46)).grownBy w' v.ownBlock → Below base w w' → wpList Tryz.prog ops Q rest (a.put o.dst v') w') :
    wpList Tryz.prog ops Q (o :: rest) a (w.alloc (.cells #[.int .i64 y.1, .int .i64 y.2] 46)) := by
  obtain ⟨i0, hi0, hz0, hz1, hz2⟩ := info_parts handle_parts
  refine wpList_append1 hgd s x 119 ho base 46 i0 _ 2 16 Tryz.underlying119 hi0 hz0 hz1 hz2 rfl (by decide) v hs.length _ hv hown [.int .i64 y.1, .int .i64 y.2] hx rfl (by simp [Value.oneCell']) (by unfold maxLen; omega) (by omega) hbase ?_
  intro v' w' h1 h2 h3
  exact h v' w' (by unfold OwnH; rw [List.length_append, List.flatMap_append]; exact h1) h2 h3

end Go.Proofs.YtpgcghnlepnoiaaGreatDoor

/-
  A slot (a number and a flag) in memory; slots as an object.
-/
namespace Go.Proofs.YtpgcghnlepnoiaaGreatDoor
open Go.RowKit

theorem slot_info : (Tryz.prog.info? 147).map (·.size) = some 2 := by kernel_rfl
@[go_sem ↓] theorem loadAt_slot (v : Value) : Instr.loadAt 147 v = rowLoad 147 v := rfl
@[go_sem ↓] theorem storeAt_slot (p v : Value) : Instr.storeAt 147 p v = rowStore 147 p v := rfl
@[go_sem] theorem run_load_slot (w : World) (g o : Nat) : (rowLoad 147 (.pointer (some ⟨g, o, none⟩))).run Tryz.prog w = match row? w g o 2 with | some cs => .ok (.agg cs) w | none => (slowLoad 147 ⟨g, o, none⟩).run Tryz.prog w :=
  run_rowLoad w _ g o 2 _ Tryz.underlying147 rfl slot_info
/-- two cells stored -/
def put2 (w : World) (g o : Nat) (a b : Value) : World :=
  { w with heap := w.heap.modify g fun
      | .cells cs e fr => .cells ((cs.setIfInBounds o a).setIfInBounds (o + 1) b) e fr
      | x => x }
theorem put2_set (w : World) (g o : Nat) (a b : Value) : put2 w g o a b = (w.setCell ⟨g, o, none⟩ a).setCell ⟨g, o + 1, none⟩ b := by
  unfold put2 World.setCell
  simp only
  congr 1
  apply Array.ext_getElem?
  intro k
  simp only [Array.getElem?_modify]
  split
  · cases w.heap[k]? with
    | none => rfl
    | some x => cases x <;> rfl
  · rfl
theorem set_two (cs : Array Value) (o : Nat) (a b : Value) (h : o + 2 ≤ cs.size) : (List.take o cs.toList ++ a :: b :: List.drop (o + 2) cs.toList).toArray = (cs.setIfInBounds o a).setIfInBounds (o + 1) b := by
  apply Array.ext'
  apply List.ext_getElem?
  intro j
  have hl : (List.take o cs.toList).length = o := by rw [List.length_take]; simp; omega
  rw [Array.toList_setIfInBounds, Array.toList_setIfInBounds, List.getElem?_set, List.getElem?_set, List.length_set]
  simp only [Array.length_toList]
  rcases Nat.lt_trichotomy j o with h1 | h1 | h1
  · rw [List.getElem?_append_left (by omega), if_neg (by omega), if_neg (by omega), List.getElem?_take, if_pos h1]
  · rw [List.getElem?_append_right (by omega), hl, h1, Nat.sub_self, if_neg (by omega), if_pos rfl, if_pos (by omega)]; rfl
  · rw [List.getElem?_append_right (by omega), hl]
    by_cases h2 : j = o + 1
    · rw [h2, if_pos rfl, if_pos (by omega), show o + 1 - o = 1 from by omega]; rfl
    · rw [if_neg (by omega), if_neg (by omega), show j - o = (j - o - 2) + 2 from by omega, List.getElem?_cons_succ, List.getElem?_cons_succ, List.getElem?_drop, show o + 2 + (j - o - 2) = j from by omega]
set_option maxRecDepth 100000 in
@[go_sem] theorem run_store_slot (w : World) (g o : Nat) (x : Int) (b : Bool) : (rowStore 147 (.pointer (some ⟨g, o, none⟩)) (.agg #[.int .i64 x, .bool b])).run Tryz.prog w =
    if fits w g o 2 = true then .ok () (put2 w g o (.int .i64 x) (.bool b)) else (slowStore 147 g o (.agg #[.int .i64 x, .bool b])).run Tryz.prog w := by
  split
  · rename_i hf
    unfold fits at hf
    split at hf
    · rename_i cs e hg
      have hn : o + 2 ≤ cs.size := by simpa using hf
      cases hq : Tryz.prog.info? 147 with
      | none => have := slot_info; simp [hq] at this
      | some i =>
        have hs : i.size = 2 := by have := slot_info; simpa [hq] using this
        have hst := run_storeCells_at Tryz.prog g o e [.int .i64 x, .bool b] 0 cs w hg (by simp; omega) (by intro v hv; simp at hv; rcases hv with rfl | rfl <;> rfl)
        have hlen : (#[Value.int .i64 x, .bool b] : Array Value).size = i.size := by rw [hs]; rfl
        simp only [rowStore, Instr.storeAt, Instr.sureAddr, storeVar, Sem.run_bind, sizeOf, typeInfo, run_program, Result.andThen_ok, hq, Sem.run_pure, Value.cells, hlen, ne_eq, not_true_eq_false, if_false, hst]
        congr 1
        unfold put2 World.setRow
        congr 1
        apply Array.ext_getElem?
        intro k
        rw [Array.getElem?_modify, Array.getElem?_modify]
        split
        · rename_i hk
          subst hk
          rw [hg]
          simp
          exact set_two cs o _ _ hn
        · rfl
    · cases hf
  · rfl
set_option maxRecDepth 100000 in
theorem eql_slot (a c : Int) (b d : Bool) (w : World) : (binOp .eql 147 (.agg #[.int .i64 a, .bool b]) (.agg #[.int .i64 c, .bool d])).run Tryz.prog w = .ok (.bool (decide (a = c) && decide (b = d))) w := by
  have hS : Tryz.prog.underlying 147 = some (.struct (Tryz.prog.fieldsOf 147)) := by kernel_rfl
  have hp : Tryz.prog.stoodInHeld 147 = false := by kernel_rfl
  have u3 := Tryz.underlying3
  have u4 := Tryz.underlying4
  have a3 := Tryz.isAgg3
  have z3 := Tryz.sizeOf3
  have a4 := Tryz.isAgg4
  have z4 := Tryz.sizeOf4
  rw [run_eql_struct, show (10000 : Nat) = 9999 + 1 from rfl, run_equalIn_agg w 9999 147 _ _ hS hp]
  simp only [Program.fieldsOf, Tryz.underlying147]
  go_simp
  by_cases h1 : a = c <;> by_cases h2 : b = d <;> simp [h1, h2]

/-- a slot's cells -/
def slotC (x : Int × Bool) : List Value := [.int .i64 x.1, .bool x.2]
theorem slotC_len (x : Int × Bool) : (slotC x).length = 2 := rfl

/-- the slots ls, at p; what is theirs is in F -/
def SlotsAt (w : World) (p : Nat) (ls : List (Int × Bool)) (F : Nat → Prop) : Prop :=
  ∃ v, Blk w p 145 #[v] ∧ w.ownsRow 0 147 2 v ls.length (ls.flatMap slotC) ∧ v.ownBlock ≠ some p ∧ F p ∧ ∀ k, v.ownBlock = some k → F k

theorem SlotsAt.only {w w' : World} {p : Nat} {ls : List (Int × Bool)} {F G : Nat → Prop} (h : SlotsAt w p ls F) (ho : Only G w w') (hd : ∀ k, F k → ¬ G k) : SlotsAt w' p ls F := by
  obtain ⟨v, h1, h2, h3, h4, h5⟩ := h
  exact ⟨v, ho.blk h1 (hd p h4), ho.own h2 fun k hk => hd k (h5 k hk), h3, h4, h5⟩
theorem SlotsAt.mono {w : World} {p : Nat} {ls : List (Int × Bool)} {F G : Nat → Prop} (h : SlotsAt w p ls F) (hd : ∀ k, k < w.heap.size → F k → G k) : SlotsAt w p ls G := by
  obtain ⟨v, h1, h2, h3, h4, h5⟩ := h
  exact ⟨v, h1, h2, h3, hd p h1.lt h4, fun k hk => hd k (h2.lt k hk).2 (h5 k hk)⟩
theorem SlotsAt.lt {w : World} {p : Nat} {ls : List (Int × Bool)} {F : Nat → Prop} (h : SlotsAt w p ls F) : p < w.heap.size := by
  obtain ⟨v, h1, _⟩ := h; exact h1.lt
/-- what is read of them -/
theorem SlotsAt.facts {w : World} {p : Nat} {ls : List (Int × Bool)} {F : Nat → Prop} (h : SlotsAt w p ls F) :
    ∃ A c, w.cell? ⟨p, 0, none⟩ = some (.slice A ls.length c) ∧ w.frozen? ⟨p, 0, none⟩ = false ∧ ls.length ≤ c ∧ c ≤ maxLen ∧
      w.ownsRow 0 147 2 (.slice A ls.length c) ls.length (ls.flatMap slotC) ∧ (Value.slice A ls.length c).ownBlock ≠ some p ∧
      ∀ k, k < ls.length → ∃ g, A = some ⟨g, 0, none⟩ ∧ g ≠ p ∧ F g ∧ g < w.heap.size ∧ w.frozen? ⟨g, k * 2, none⟩ = false ∧ w.frozen? ⟨g, k * 2 + 1, none⟩ = false ∧ fits w g (k * 2) 2 = true ∧
        row? w g (k * 2) 2 = some #[.int .i64 (ls.getD k (0, false)).1, .bool (ls.getD k (0, false)).2] ∧
        w.cell? ⟨g, k * 2, none⟩ = some (.int .i64 (ls.getD k (0, false)).1) ∧ w.cell? ⟨g, k * 2 + 1, none⟩ = some (.bool (ls.getD k (0, false)).2) := by
  obtain ⟨v, h1, h2, h3, h4, h5⟩ := h
  obtain ⟨A, c, rfl, hc1, hc2, hA⟩ := own_form h2
  refine ⟨A, c, h1.cell 0, h1.frozen 0, hc1, hc2, h2, h3, fun k hk => ?_⟩
  obtain ⟨g, rfl⟩ := hA (by omega)
  have hgd : ls.getD k (0, false) = ls[k] := by simp [List.getD, List.getElem?_eq_getElem hk]
  rw [hgd]
  have hr := own_row h2 hk
  rw [flat_at slotC_len ls k hk] at hr
  have hk2 : k * 2 + 2 ≤ ls.length * 2 := by omega
  have hf : fits w g (k * 2) 2 = true := by
    obtain ⟨_, h0 | ⟨g', cap, cur, e1, _, hg, h3', _, h5', _⟩⟩ := h2
    · cases h0.1
    · injection e1 with e1 e2 e3
      injection e1 with e1
      injection e1 with e1
      subst e1
      unfold fits
      rw [hg]
      simp; omega
  refine ⟨g, rfl, fun e => h3 (by rw [e]; rfl), h5 g rfl, (h2.lt g rfl).2, h2.frozenAt _, h2.frozenAt _, hf, hr, ?_, ?_⟩
  · rw [h2.cellAt (k * 2) (by omega), ← Nat.add_zero (k * 2), flat_get slotC_len ls k 0 hk (by omega)]; rfl
  · rw [h2.cellAt (k * 2 + 1) (by omega), flat_get slotC_len ls k 1 hk (by omega)]; rfl
/-- a slot written -/
theorem SlotsAt.put {w : World} {p : Nat} {ls : List (Int × Bool)} {F : Nat → Prop} (h : SlotsAt w p ls F) {g k c : Nat} (hk : k < ls.length) (hg : w.cell? ⟨p, 0, none⟩ = some (.slice (some ⟨g, 0, none⟩) ls.length c)) (x : Int) (b : Bool) :
    SlotsAt (put2 w g (k * 2) (.int .i64 x) (.bool b)) p (ls.set k (x, b)) F ∧ Only F w (put2 w g (k * 2) (.int .i64 x) (.bool b)) := by
  obtain ⟨v, h1, h2, h3, h4, h5⟩ := h
  have hv : v = .slice (some ⟨g, 0, none⟩) ls.length c := by
    have := h1.cell 0
    rw [hg] at this
    simpa using this.symm
  subst hv
  rw [put2_set]
  have s1 := h2.stored (k * 2) (.int .i64 x)
  have s2 := s1.1.stored (k * 2 + 1) (.bool b)
  have hne : p ≠ g := fun e => h3 (by rw [← e]; rfl)
  refine ⟨⟨_, (h1.far hne _ _).far hne _ _, ?_, h3, h4, h5⟩, (Only.refl.setCell (Or.inl (h5 g rfl)) _ _).setCell (Or.inl (h5 g rfl)) _ _⟩
  have := s2.1
  rw [← Nat.add_zero (k * 2), flat_set slotC_len ls k 0 (x, ls[k].2) (.int .i64 x) hk (by omega) rfl,
    flat_set slotC_len (ls.set k (x, ls[k].2)) k 1 (x, b) (.bool b) (by simpa using hk) (by omega) (by simp [slotC])] at this
  rw [List.set_set] at this
  rw [List.length_set]
  exact this
/-- a flag set -/
theorem SlotsAt.live {w : World} {p : Nat} {ls : List (Int × Bool)} {F : Nat → Prop} (h : SlotsAt w p ls F) {g k c : Nat} (hk : k < ls.length) (hg : w.cell? ⟨p, 0, none⟩ = some (.slice (some ⟨g, 0, none⟩) ls.length c)) (b : Bool) :
    SlotsAt (w.setCell ⟨g, k * 2 + 1, none⟩ (.bool b)) p (ls.set k ((ls.getD k (0, false)).1, b)) F ∧ Only F w (w.setCell ⟨g, k * 2 + 1, none⟩ (.bool b)) := by
  obtain ⟨v, h1, h2, h3, h4, h5⟩ := h
  have hv : v = .slice (some ⟨g, 0, none⟩) ls.length c := by
    have := h1.cell 0
    rw [hg] at this
    simpa using this.symm
  subst hv
  have s2 := h2.stored (k * 2 + 1) (.bool b)
  have hne : p ≠ g := fun e => h3 (by rw [← e]; rfl)
  have hgd : ls.getD k (0, false) = ls[k] := by simp [List.getD, List.getElem?_eq_getElem hk]
  refine ⟨⟨_, h1.far hne _ _, ?_, h3, h4, h5⟩, Only.refl.setCell (Or.inl (h5 g rfl)) _ _⟩
  have := s2.1
  rw [flat_set slotC_len ls k 1 (ls[k].1, b) (.bool b) hk (by omega) rfl] at this
  rw [List.length_set, hgd]
  exact this

end Go.Proofs.YtpgcghnlepnoiaaGreatDoor

/-
  Several objects in memory, apart from each other: what a call makes of one of them leaves the others.
-/
namespace Go.Proofs.YtpgcghnlepnoiaaGreatDoor
open Go.RowKit

/-- F, and what was laid since -/
def Plus (F : Nat → Prop) (w w' : World) : Nat → Prop := fun k => F k ∨ w.heap.size ≤ k ∧ k < w'.heap.size

/-- a thing in memory, with the blocks that are its own -/
structure Assn where
  at_ : World → (Nat → Prop) → Prop
  frame : ∀ {w w' : World} {F G : Nat → Prop}, at_ w F → Only G w w' → (∀ k, F k → ¬ G k) → at_ w' F
  cut : ∀ {w : World} {F G : Nat → Prop}, at_ w F → (∀ k, k < w.heap.size → F k → G k) → at_ w G

def Sep : List Assn → World → (Nat → Prop) → Prop
  | [], _, _ => True
  | A :: l, w, F => ∃ F1 F2, A.at_ w F1 ∧ Sep l w F2 ∧ (∀ k, F1 k → ¬ F2 k) ∧ ∀ k, F1 k ∨ F2 k → F k

section
variable {A A' B C D : Assn} {l l' : List Assn} {w w' w0 : World} {F G : Nat → Prop}
theorem Sep.frame : ∀ {l : List Assn} {F : Nat → Prop}, Sep l w F → Only G w w' → (∀ k, F k → ¬ G k) → Sep l w' F
  | [], _, _, _, _ => trivial
  | A :: l, F, ⟨F1, F2, h1, h2, h3, h4⟩, ho, hd => ⟨F1, F2, A.frame h1 ho fun k hk => hd k (h4 k (Or.inl hk)), Sep.frame h2 ho fun k hk => hd k (h4 k (Or.inr hk)), h3, h4⟩
theorem Sep.cut : ∀ {l : List Assn} {F G : Nat → Prop}, Sep l w F → (∀ k, k < w.heap.size → F k → G k) → Sep l w G
  | [], _, _, _, _ => trivial
  | A :: l, F, G, ⟨F1, F2, h1, h2, h3, h4⟩, hd =>
    ⟨fun k => F1 k ∧ k < w.heap.size, fun k => F2 k ∧ k < w.heap.size, A.cut h1 fun k hk h => ⟨h, hk⟩, Sep.cut h2 fun k hk h => ⟨h, hk⟩, fun k a b => h3 k a.1 b.1, fun k h => by
      rcases h with h | h
      · exact hd k h.2 (h4 k (Or.inl h.1))
      · exact hd k h.2 (h4 k (Or.inr h.1))⟩
theorem Sep.head (h : Sep (A :: l) w F) : A.at_ w F := by
  obtain ⟨F1, F2, h1, h2, h3, h4⟩ := h
  exact A.cut h1 fun k _ hk => h4 k (Or.inl hk)
theorem Sep.tail (h : Sep (A :: l) w F) : Sep l w F := by
  obtain ⟨F1, F2, h1, h2, h3, h4⟩ := h
  exact h2.cut fun k _ hk => h4 k (Or.inr hk)
theorem Sep.swap (h : Sep (A :: B :: l) w F) : Sep (B :: A :: l) w F := by
  obtain ⟨F1, F2, h1, ⟨F3, F4, g1, g2, g3, g4⟩, h3, h4⟩ := h
  refine ⟨F3, fun k => F1 k ∨ F4 k, g1, ⟨F1, F4, h1, g2, fun k a b => h3 k a (g4 k (Or.inr b)), fun k h => h⟩, fun k a b => ?_, fun k h => ?_⟩
  · rcases b with b | b
    · exact h3 k b (g4 k (Or.inl a))
    · exact g3 k a b
  · rcases h with h | h | h
    · exact h4 k (Or.inr (g4 k (Or.inl h)))
    · exact h4 k (Or.inl h)
    · exact h4 k (Or.inr (g4 k (Or.inr h)))
theorem Sep.tail_map {l l' : List Assn} (hl : ∀ F, Sep l w F → Sep l' w F) (h : Sep (A :: l) w F) : Sep (A :: l') w F := by
  obtain ⟨F1, F2, h1, h2, h3, h4⟩ := h
  exact ⟨F1, F2, h1, hl _ h2, h3, h4⟩
theorem Sep.perm (hp : l.Perm l') : ∀ {F : Nat → Prop}, Sep l w F → Sep l' w F := by
  induction hp with
  | nil => exact fun h => h
  | cons a _ ih => exact fun h => h.tail_map fun _ => ih
  | swap a b l => exact fun h => h.swap
  | trans _ _ ih1 ih2 => exact fun h => ih2 (ih1 h)

/-- since w0 only F, and what is new, has turned; and there are these things, apart, in F and in what is new -/
structure In (F : Nat → Prop) (w0 : World) (l : List Assn) (w : World) : Prop where
  sep : Sep l w (fun k => (F k ∨ w0.heap.size ≤ k) ∧ k < w.heap.size)
  only : Only F w0 w

theorem In.mk' {F' : Nat → Prop} (h : Sep l w F') (hF : ∀ k, k < w.heap.size → F' k → F k ∨ w0.heap.size ≤ k) (ho : Only F w0 w) : In F w0 l w := ⟨h.cut fun k hk hf => ⟨hF k hk hf, hk⟩, ho⟩
theorem In.nil (w : World) (F : Nat → Prop) : In F w [] w := ⟨trivial, Only.refl⟩
theorem In.one (h : A.at_ w F) : In F w [A] w := ⟨⟨fun k => F k ∧ k < w.heap.size, fun _ => False, A.cut h fun k hk hf => ⟨hf, hk⟩, trivial, fun _ _ h => h, fun k h => by rcases h with h | h; exact ⟨Or.inl h.1, h.2⟩; exact h.elim⟩, Only.refl⟩
theorem In.start (h : Sep l w F) : In F w l w := ⟨h.cut fun k hk hf => ⟨Or.inl hf, hk⟩, Only.refl⟩
theorem In.perm (h : In F w0 l w) (hp : l.Perm l') : In F w0 l' w := ⟨h.sep.perm hp, h.only⟩
theorem In.swap (h : In F w0 (A :: B :: l) w) : In F w0 (B :: A :: l) w := ⟨h.sep.swap, h.only⟩
theorem In.third (h : In F w0 (A :: B :: C :: l) w) : In F w0 (C :: A :: B :: l) w := ⟨(h.sep.tail_map fun _ => Sep.swap).swap, h.only⟩
theorem In.fourth (h : In F w0 (A :: B :: C :: D :: l) w) : In F w0 (D :: A :: B :: C :: l) w := ⟨((h.sep.tail_map fun _ => Sep.tail_map fun _ => Sep.swap).tail_map fun _ => Sep.swap).swap, h.only⟩
theorem In.drop (h : In F w0 (A :: l) w) : In F w0 l w := ⟨h.sep.tail, h.only⟩
theorem In.head (h : In F w0 (A :: l) w) : ∃ F1, A.at_ w F1 := ⟨_, h.sep.head⟩
theorem In.size (h : In F w0 l w) : w0.heap.size ≤ w.heap.size := h.only.size
/-- one of them is handed to a call -/
theorem In.open_ (h : In F w0 (A :: l) w) : ∃ F1, A.at_ w F1 ∧ (∀ k, F1 k → (F k ∨ w0.heap.size ≤ k) ∧ k < w.heap.size) ∧ ∀ {w' : World} {A' : Assn}, A'.at_ w' (Plus F1 w w') → Only F1 w w' → In F w0 (A' :: l) w' := by
  obtain ⟨⟨F1, F2, h1, h2, h3, h4⟩, ho⟩ := h
  refine ⟨F1, h1, fun k hk => h4 k (Or.inl hk), fun {w'} {A'} ha ho' => ?_⟩
  refine ⟨⟨_, F2, ha, h2.frame ho' fun k a b => h3 k b a, fun k a b => ?_, fun k h => ?_⟩, ho.trans' ho' fun k hk hf => ?_⟩
  · rcases a with a | a
    · exact h3 k a b
    · have := (h4 k (Or.inr b)).2; omega
  · have hs := ho'.size
    have hs0 := ho.size
    rcases h with (h | h) | h
    · have := h4 k (Or.inl h); exact ⟨this.1, by omega⟩
    · exact ⟨Or.inr (by omega), h.2⟩
    · have := h4 k (Or.inr h); exact ⟨this.1, by omega⟩
  · have := h4 k (Or.inl hf)
    rcases this.1 with h | h
    · exact h
    · omega
/-- a call that makes memory, and hands back a new thing -/
theorem In.new (h : In F w0 l w) (hb : Below w.heap.size w w') (ha : A.at_ w' (fun k => w.heap.size ≤ k)) : In F w0 (A :: l) w' := by
  obtain ⟨hs, ho⟩ := h
  have hsz := hb.size
  have hsz0 := ho.size
  refine ⟨⟨fun k => w.heap.size ≤ k ∧ k < w'.heap.size, _, A.cut ha fun k hk hf => ⟨hf, hk⟩, hs.frame (G := fun k => w.heap.size ≤ k) ?_ fun k a b => by omega, fun k a b => by omega, fun k h => ?_⟩, ho.trans (Only.of_below hb)⟩
  · exact Only.of_below hb
  · rcases h with h | h
    · exact ⟨Or.inr (by omega), h.2⟩
    · exact ⟨h.1, by omega⟩
theorem In.below (h : In F w0 l w) (hb : Below w.heap.size w w') : In F w0 l w' := by
  have hsz := hb.size
  exact ⟨(h.sep.frame (G := fun k => w.heap.size ≤ k) (Only.of_below hb) fun k a b => by omega).cut fun k _ hf => ⟨hf.1, by omega⟩, h.only.trans (Only.of_below hb)⟩
theorem In.drew (h : In F w0 l w) : In F w0 l w.drew := h.below (Below.refl _ _).drew
/-- at the end -/
theorem In.done (h : In F w0 (A :: l) w) : A.at_ w (Plus F w0 w) ∧ Only F w0 w :=
  ⟨A.cut h.sep.head fun k _ hk => by rcases hk.1 with h | h; exact Or.inl h; exact Or.inr ⟨h, hk.2⟩, h.only⟩
theorem In.below0 (h : In (fun _ => False) w0 l w) : Below w0.heap.size w0 w := h.only.below (Nat.le_refl _) fun _ _ h => h.elim
theorem In.fresh (h : In (fun _ => False) w0 (A :: l) w) : A.at_ w (fun k => w0.heap.size ≤ k) := A.cut h.sep.head fun k _ hk => by rcases hk.1 with h | h; exact h.elim; exact h
/-- a step within: another list of things there -/
theorem In.turn (h : In F w0 l w) (ht : ∀ F, Sep l w F → Sep l' w F) : In F w0 l' w := ⟨ht _ h.sep, h.only⟩
/-- what was there at the start, and is not in F, is there -/
theorem In.old (h : In F w0 l w) {k : Nat} (hk : k < w0.heap.size) (hF : ¬ F k) : w.heap[k]? = w0.heap[k]? := h.only.block k hk hF
end

/-- a block of cells -/
def Box (g : Nat) (t : TypeId) (cs : Array Value) : Assn where
  at_ w F := Blk w g t cs ∧ F g
  frame h ho hd := ⟨ho.blk h.1 (hd _ h.2), h.2⟩
  cut h hd := ⟨h.1, hd _ h.1.lt h.2⟩
section
variable {l : List Assn} {w w0 : World} {F : Nat → Prop} {g : Nat} {t : TypeId} {cs : Array Value}
theorem In.alloc (h : In F w0 l w) (t : TypeId) (cs : Array Value) : In F w0 (Box w.heap.size t cs :: l) (w.alloc (.cells cs t)) :=
  h.new ((Below.refl _ _).alloc (Nat.le_refl _) _) ⟨Blk.new _ _ _, Nat.le_refl _⟩
theorem In.blk (h : In F w0 (Box g t cs :: l) w) : Blk w g t cs := h.sep.head.1
theorem In.set (h : In F w0 (Box g t cs :: l) w) (i : Nat) (v : Value) : In F w0 (Box g t (cs.setIfInBounds i v) :: l) (w.setCell ⟨g, i, none⟩ v) := by
  obtain ⟨F1, ⟨h1, h2⟩, hF, hb⟩ := h.open_
  exact hb (A' := Box g t (cs.setIfInBounds i v)) ⟨h1.set i v, Or.inl h2⟩ (Only.refl.setCell (Or.inl h2) _ _)
theorem Only.putRow (w : World) (g o : Nat) (xs : List Int) : Only (· = g) w (putRow w g o xs) := ⟨rfl, rfl, rfl, by rw [putRow_size]; exact Nat.le_refl _, fun q _ hq => putRow_other w g o xs q hq⟩
theorem In.put {ys : List Int} (h : In F w0 (Box g t (ints ys) :: l) w) (o : Nat) (xs : List Int) : In F w0 (Box g t (ints (ys.take o ++ xs ++ ys.drop (o + xs.length))) :: l) (putRow w g o xs) := by
  obtain ⟨F1, ⟨h1, h2⟩, hF, hb⟩ := h.open_
  exact hb (A' := Box g t _) ⟨h1.put o xs, Or.inl h2⟩ ((Only.putRow w g o xs).mono fun k _ e => by rw [e]; exact h2)
theorem In.put_all {ys : List Int} (h : In F w0 (Box g t (ints ys) :: l) w) (xs : List Int) (hl : xs.length = ys.length) : In F w0 (Box g t (ints xs) :: l) (putRow w g 0 xs) := by
  have := h.put 0 xs
  rwa [List.take_zero, List.nil_append, Nat.zero_add, hl, List.drop_length, List.append_nil] at this
/-- a new struct of ints, and what is stored there at once -/
theorem In.struct (h : In F w0 l w) (t : TypeId) (ys xs : List Int) (hl : xs.length = ys.length) : In F w0 (Box w.heap.size t (ints xs) :: l) (Go.Proofs.YtpgcghnlepnoiaaGreatDoor.putRow (w.alloc (.cells (ints ys) t)) w.heap.size 0 xs) :=
  (h.alloc t (ints ys)).put_all xs hl
end

/-- a slice of one's own -/
def RowA (E : TypeId) (size : Nat) (v : Value) (n : Nat) (xs : List Value) : Assn where
  at_ w F := w.ownsRow 0 E size v n xs ∧ ∀ k, v.ownBlock = some k → F k
  frame h ho hd := ⟨ho.own h.1 fun k hk => hd k (h.2 k hk), h.2⟩
  cut h hd := ⟨h.1, fun k hk => hd k (h.1.lt k hk).2 (h.2 k hk)⟩
/-- a struct of one slice behind a pointer -/
def Col {α : Type} (T E : TypeId) (size : Nat) (enc : α → List Value) (p : Nat) (xs : List α) : Assn where
  at_ w F := ColAt T E size enc w p xs F
  frame h ho hd := h.only ho hd
  cut h hd := h.mono hd

end Go.Proofs.YtpgcghnlepnoiaaGreatDoor

/-
  More on things that lie apart: families of things; parts.
-/
namespace Go.Proofs.YtpgcghnlepnoiaaGreatDoor
open Go.RowKit

section
variable {κ : Type} [DecidableEq κ] {l : List Assn} {ks : List κ} {f : κ → Assn} {F : Nat → Prop} {w0 w : World}
theorem erase_map {k : κ} {g : κ → Assn} (hn : ks.Nodup) (A : Assn) : (ks.erase k).map (fun j => if j = k then A else g j) = (ks.erase k).map g := by
  apply List.map_congr_left
  intro j hj
  rw [if_neg]
  rintro rfl
  exact (List.Nodup.not_mem_erase hn) hj
/-- one of a family is handed to a call -/
theorem In.openAt (h : In F w0 (l ++ ks.map f) w) (hn : ks.Nodup) {k : κ} (hk : k ∈ ks) : ∃ F1, (f k).at_ w F1 ∧ (∀ k, F1 k → (F k ∨ w0.heap.size ≤ k) ∧ k < w.heap.size) ∧
    ∀ (w' : World) (A' : Assn), A'.at_ w' (Plus F1 w w') → Only F1 w w' → In F w0 (l ++ ks.map (fun j => if j = k then A' else f j)) w' := by
  have hp : (l ++ ks.map f).Perm (f k :: (l ++ (ks.erase k).map f)) :=
    (List.Perm.append_left l ((List.perm_cons_erase hk).map f)).trans List.perm_middle
  obtain ⟨F1, h1, h2, h3⟩ := (h.perm hp).open_
  refine ⟨F1, h1, h2, fun w' A' ha ho => (h3 ha ho).perm ?_⟩
  have hp' : (l ++ ks.map (fun j => if j = k then A' else f j)).Perm ((if k = k then A' else f k) :: (l ++ (ks.erase k).map (fun j => if j = k then A' else f j))) :=
    (List.Perm.append_left l ((List.perm_cons_erase hk).map (fun j => if j = k then A' else f j))).trans List.perm_middle
  rw [if_pos rfl, erase_map hn] at hp'
  exact hp'.symm
theorem In.readAt (h : In F w0 (l ++ ks.map f) w) (hn : ks.Nodup) {k : κ} (hk : k ∈ ks) : ∃ F1, (f k).at_ w F1 := by
  obtain ⟨F1, h1, _⟩ := h.openAt hn hk; exact ⟨F1, h1⟩
end

theorem Sep.join {w : World} : ∀ {l1 l2 : List Assn} {F1 F2 : Nat → Prop}, Sep l1 w F1 → Sep l2 w F2 → (∀ k, F1 k → ¬ F2 k) → Sep (l1 ++ l2) w (fun k => F1 k ∨ F2 k)
  | [], _, _, _, _, h2, _ => h2.cut fun _ _ h => Or.inr h
  | A :: l1, _, _, _, ⟨G1, G2, g1, g2, g3, g4⟩, h2, hd =>
    ⟨G1, _, g1, Sep.join g2 h2 (fun k a b => hd k (g4 k (Or.inr a)) b), fun k a b => by rcases b with b | b; exact g3 k a b; exact hd k (g4 k (Or.inl a)) b, fun k h => by rcases h with h | h | h; exact Or.inl (g4 k (Or.inl h)); exact Or.inl (g4 k (Or.inr h)); exact Or.inr h⟩
theorem Sep.part {w : World} : ∀ {l1 l2 : List Assn} {F : Nat → Prop}, Sep (l1 ++ l2) w F → ∃ F1 F2, Sep l1 w F1 ∧ Sep l2 w F2 ∧ (∀ k, F1 k → ¬ F2 k) ∧ ∀ k, F1 k ∨ F2 k → F k
  | [], _, F, h => ⟨fun _ => False, F, trivial, h, fun _ h => h.elim, fun k h => by rcases h with h | h; exact h.elim; exact h⟩
  | A :: l1, l2, F, ⟨G1, G2, g1, g2, g3, g4⟩ => by
    obtain ⟨H1, H2, k1, k2, k3, k4⟩ := Sep.part g2
    refine ⟨fun k => G1 k ∨ H1 k, H2, ⟨G1, H1, g1, k1, fun k a b => g3 k a (k4 k (Or.inl b)), fun k h => h⟩, k2, fun k a b => ?_, fun k h => ?_⟩
    · rcases a with a | a
      · exact g3 k a (k4 k (Or.inr b))
      · exact k3 k a b
    · rcases h with (h | h) | h
      · exact g4 k (Or.inl h)
      · exact g4 k (Or.inr (k4 k (Or.inl h)))
      · exact g4 k (Or.inr (k4 k (Or.inr h)))
theorem In.doneL {l : List Assn} {F : Nat → Prop} {w0 w : World} (h : In F w0 l w) : Sep l w (Plus F w0 w) ∧ Only F w0 w :=
  ⟨h.sep.cut fun k _ hk => by rcases hk.1 with h | h; exact Or.inl h; exact Or.inr ⟨h, hk.2⟩, h.only⟩

/-- two new structs, and what is stored there at once -/
theorem two_fits (w : World) (t t' : TypeId) (us zs xs : List Int) : fits ((w.alloc (.cells (ints us) t)).alloc (.cells (ints zs) t')) w.heap.size 0 us.length = true ∧
    fits (putRow ((w.alloc (.cells (ints us) t)).alloc (.cells (ints zs) t')) w.heap.size 0 xs) (w.heap.size + 1) 0 zs.length = true := by
  have h2 := Blk.new (w.alloc (.cells (ints us) t)) t' (ints zs)
  rw [World.size_alloc] at h2
  exact ⟨((Blk.new w t (ints us)).alloc _).fits 0 _ (by rw [ints_size]; omega), (h2.put_far (g' := w.heap.size) 0 xs (by omega)).fits 0 _ (by rw [ints_size]; omega)⟩
theorem In.struct2 {F : Nat → Prop} {w0 w : World} {l : List Assn} (h : In F w0 l w) (t t' : TypeId) (us zs xs ys : List Int) (h1 : xs.length = us.length) (h2 : ys.length = zs.length) :
    In F w0 (Box (w.heap.size + 1) t' (ints ys) :: Box w.heap.size t (ints xs) :: l) (Go.Proofs.YtpgcghnlepnoiaaGreatDoor.putRow (Go.Proofs.YtpgcghnlepnoiaaGreatDoor.putRow ((w.alloc (.cells (ints us) t)).alloc (.cells (ints zs) t')) w.heap.size 0 xs) (w.heap.size + 1) 0 ys) := by
  have g := (h.alloc t (ints us)).alloc t' (ints zs)
  rw [World.size_alloc] at g
  exact ((g.swap.put_all xs h1).swap).put_all ys h2

theorem three_fits (w : World) (t t' t'' : TypeId) (us zs ws xs ys : List Int) : fits (((w.alloc (.cells (ints us) t)).alloc (.cells (ints zs) t')).alloc (.cells (ints ws) t'')) w.heap.size 0 us.length = true ∧
    fits (putRow (((w.alloc (.cells (ints us) t)).alloc (.cells (ints zs) t')).alloc (.cells (ints ws) t'')) w.heap.size 0 xs) (w.heap.size + 1) 0 zs.length = true ∧
    fits (putRow (putRow (((w.alloc (.cells (ints us) t)).alloc (.cells (ints zs) t')).alloc (.cells (ints ws) t'')) w.heap.size 0 xs) (w.heap.size + 1) 0 ys) (w.heap.size + 1 + 1) 0 ws.length = true := by
  have h2 := (Blk.new (w.alloc (.cells (ints us) t)) t' (ints zs)).alloc (.cells (ints ws) t'')
  have h3 := Blk.new ((w.alloc (.cells (ints us) t)).alloc (.cells (ints zs) t')) t'' (ints ws)
  simp only [World.size_alloc] at h2 h3
  exact ⟨(((Blk.new w t (ints us)).alloc _).alloc _).fits 0 _ (by rw [ints_size]; omega), (h2.put_far (g' := w.heap.size) 0 xs (by omega)).fits 0 _ (by rw [ints_size]; omega),
    ((h3.put_far (g' := w.heap.size) 0 xs (by omega)).put_far (g' := w.heap.size + 1) 0 ys (by omega)).fits 0 _ (by rw [ints_size]; omega)⟩
theorem In.struct3 {F : Nat → Prop} {w0 w : World} {l : List Assn} (h : In F w0 l w) (t t' t'' : TypeId) (us zs ws xs ys vs : List Int) (h1 : xs.length = us.length) (h2 : ys.length = zs.length) (h3 : vs.length = ws.length) :
    In F w0 (Box (w.heap.size + 1 + 1) t'' (ints vs) :: Box (w.heap.size + 1) t' (ints ys) :: Box w.heap.size t (ints xs) :: l) (Go.Proofs.YtpgcghnlepnoiaaGreatDoor.putRow (Go.Proofs.YtpgcghnlepnoiaaGreatDoor.putRow (Go.Proofs.YtpgcghnlepnoiaaGreatDoor.putRow (((w.alloc (.cells (ints us) t)).alloc (.cells (ints zs) t')).alloc (.cells (ints ws) t'')) w.heap.size 0 xs) (w.heap.size + 1) 0 ys) (w.heap.size + 1 + 1) 0 vs) := by
  have g := ((h.alloc t (ints us)).alloc t' (ints zs)).alloc t'' (ints ws)
  simp only [World.size_alloc] at g
  exact (((g.third.put_all xs h1).third.put_all ys h2).third).put_all vs h3
theorem In.fifth {F : Nat → Prop} {w0 w : World} {A B C D E : Assn} {l : List Assn} (h : In F w0 (A :: B :: C :: D :: E :: l) w) : In F w0 (E :: A :: B :: C :: D :: l) w :=
  ⟨((h.sep.tail_map fun _ => Sep.tail_map fun _ => Sep.tail_map fun _ => Sep.swap).tail_map fun _ => Sep.tail_map fun _ => Sep.swap).tail_map (fun _ => Sep.swap) |>.swap, h.only⟩

end Go.Proofs.YtpgcghnlepnoiaaGreatDoor

/-
  slices.Clone at []int (printed by wip/gen_clone.py).
-/
namespace Go.Proofs.YtpgcghnlepnoiaaGreatDoor
open Go.RowKit


end Go.Proofs.YtpgcghnlepnoiaaGreatDoor

/-
  slices.Clone at []api.Handle (printed by wip/gen_clone.py).
-/
namespace Go.Proofs.YtpgcghnlepnoiaaGreatDoor
open Go.RowKit

theorem cloneHandle_parts : (Tryz.prog.info? 46).map (fun i => (i.zero, i.size, i.bytes)) = some (some (.agg #[.int .i64 0, .int .i64 0]), 2, 16) := by kernel_rfl
set_option maxRecDepth 100000 in
theorem cloneHandle_any (A : Option Addr) (n c : Nat) (xs : List Value) (w : World) (B : Nat) (h : Reads w B 2 A n xs) (h1 : ∀ u ∈ xs, u.oneCell' = true) (hA : (A = none ∧ n = 0 ∧ c = 0) ∨ ∃ b o, A = some ⟨b, o, none⟩) (hn : n ≤ 1000000) :
    Calls Tryz.prog 102 #[.slice A n c] w fun e w' => ∃ v, e = .returned v ∧ w'.ownsRow w.heap.size 46 2 v n xs ∧ Below w.heap.size w w' := by
  have H := Lib.hid h
  have H1 := Lib.hid h1
  clear h h1
  have he := fun w E hE n c n' c' a => Lib.run_eql_slice_nil (P := Tryz.prog) w 119 E a n c n' c' hE
  have he2 := fun w n c n' c' a => he w _ Tryz.underlying119 n c n' c' a
  clear he
  rcases hA with ⟨rfl, rfl, rfl⟩ | ⟨b, o, rfl⟩
  · have hx : Hid (xs = []) := by have := H.out.1; exact List.eq_nil_of_length_eq_zero (by omega)
    clear hn
    go_enter Tryz.func102, Tryz.ntmps102
    go_wp2_with fail
    go_ret
    exact ⟨_, rfl, by rw [hx.out]; exact World.ownsRow_nil _ _ _ _, Below.refl _ _⟩
  · skip
    have hcells : Hid (∀ j u, xs[j]? = some u → w.cell? ⟨b, o + j, none⟩ = some u) := by
      unfold Hid
      intro j u hu
      have hj := (List.getElem?_eq_some_iff.1 hu).1
      have hl := H.out.1
      obtain ⟨b', o', e, _, hc⟩ := H.out.2 (by rcases Nat.eq_zero_or_pos n with h | h; rw [h] at hl; omega; exact h)
      injection e with e
      injection e with e1 e2 e3
      subst e1; subst e2
      exact hc j u hu
    obtain ⟨i0, hi0, hz0, hz1, hz2⟩ := info_parts cloneHandle_parts
    go_enter Tryz.func102, Tryz.ntmps102
    go_wp2_with (at_builtin; go_loud (refine wpList_append_own_at _ rfl _ _ _ rfl w.heap.size 46 i0 _ 2 16 Tryz.underlying119 hi0 hz0 hz1 hz2 rfl (by decide) _ 0 [] rfl ?_ ⟨b, o, none⟩ n c xs rfl H.out.1 ?_ H1.out (by unfold maxLen; omega) (by omega) (by simp) ?_))
    case refine_1 => exact ⟨rfl, Or.inr ⟨w.heap.size, 0, #[], rfl, Nat.le_refl _, heap_alloc_new w _, Nat.le_refl _, by decide, rfl, rfl⟩⟩
    case refine_2 =>
      intro j u hu
      have hj := hcells.out j u hu
      rw [Addr.add_lit]
      exact (((Below.refl w.heap.size w).alloc (Nat.le_refl _) _).cell (p := ⟨b, o + j, none⟩) (World.block_lt_of_cell? _ _ hj)).trans hj
    intro v' w' hown hg _ _
    have HB : Hid (Below w.heap.size w w') := ((Below.refl w.heap.size w).alloc (Nat.le_refl _) _).grown hg (by simp) (fun k hk => by simp [Value.ownBlock] at hk; omega)
    have HO := Lib.hid hown
    clear hown hg
    go_wp2_with fail
    go_ret
    exact ⟨_, rfl, HO.out, HB.out⟩

end Go.Proofs.YtpgcghnlepnoiaaGreatDoor

/-
  Contracts of the slots' functions.
-/
namespace Go.Proofs.YtpgcghnlepnoiaaGreatDoor
open Go.RowKit


def freeB (x : Int × Bool) : Bool := !x.2 && decide (x.1 < 1000000)
/-- the first slot that is free, or -1 -/
def freeIx (ls : List (Int × Bool)) : Int := if ls.findIdx freeB < ls.length then (ls.findIdx freeB : Nat) else -1
theorem takeFree_any (x : Int) (b : Bool) (w : World) : Calls Tryz.prog 126 #[.agg #[.int .i64 x, .bool b]] w fun e w' => e = .returned (.bool (freeB (x, b))) ∧ Below w.heap.size w w' := by
  have hd : Hid (freeB (x, b) = (!b && decide (x < 1000000))) := rfl
  cases b
  all_goals
    go_enter Tryz.func126, Tryz.ntmps126
    go_wp2_with fail
    go_ret
    exact ⟨ret_bool (by rw [hd.out]; simp), (Below.refl _ _).alloc (Nat.le_refl _) _⟩

theorem new_any (w : World) : Calls Tryz.prog 90 #[] w fun e w' => e = .returned (.pointer (some ⟨w.heap.size, 0, none⟩)) ∧ SlotsAt w' w.heap.size [] (Plus (fun _ => False) w w') ∧ Below w.heap.size w w' := by
  go_enter Tryz.func90, Tryz.ntmps90
  go_wp2_with fail
  go_ret
  exact ⟨rfl, ⟨.slice none 0 0, Blk.new _ _ _, World.ownsRow_nil _ _ _ _, by simp [Value.ownBlock], Or.inr ⟨Nat.le_refl _, by simp⟩, fun k hk => by simp [Value.ownBlock] at hk⟩, (Below.refl _ _).alloc (Nat.le_refl _) _⟩

theorem slots_row {w : World} {B : Nat} {A : Option Addr} {c : Nat} {ls : List (Int × Bool)} (h : w.ownsRow B 147 2 (.slice A ls.length c) ls.length (ls.flatMap slotC)) {k : Nat} (hk : k < ls.length) :
    ∃ g, A = some ⟨g, 0, none⟩ ∧ row? w g (k * 2) 2 = some #[.int .i64 (ls.getD k (0, false)).1, .bool (ls.getD k (0, false)).2] := by
  obtain ⟨A', c', e, hc1, hc2, hA⟩ := own_form h
  obtain ⟨g, hg⟩ := hA (by omega)
  injection e with e1 e2 e3
  subst e1; subst hg
  have hgd : ls.getD k (0, false) = ls[k] := by simp [List.getD, List.getElem?_eq_getElem hk]
  have hr := own_row h hk
  rw [flat_at slotC_len ls k hk] at hr
  exact ⟨g, rfl, by rw [hgd]; exact hr⟩
theorem indexFree_any (A : Option Addr) (c : Nat) (ls : List (Int × Bool)) (w : World) (h : w.ownsRow 0 147 2 (.slice A ls.length c) ls.length (ls.flatMap slotC)) (hn : ls.length ≤ 1000000) :
    Calls Tryz.prog 125 #[.slice A ls.length c, .func (.func 126) #[] #[]] w fun e w' => e = .returned (.int .i64 (freeIx ls)) ∧ Below w.heap.size w w' := by
  have H := Lib.hid h
  clear h
  go_enter Tryz.func125, Tryz.ntmps125
  go_wp2_with fail
  go_loopw [8] (fun i w' => ∃ k : Nat, k ≤ ls.length ∧ i = .int .i64 k ∧ (∀ j, j < k → freeB (ls.getD j (0, false)) = false) ∧ Below w.heap.size w w') (fun i _ => ls.length - (intOf i).toNat)
  case atStart => exact ⟨0, by omega, rfl, fun j hj => by omega, Below.refl _ _⟩
  case round =>
    obtain ⟨k, hk, rfl, hbef, hb⟩ := hrel
    have HBEF := Lib.hid hbef
    have HBR := Lib.hid hb
    clear hbef hb
    by_cases hlt : k < ls.length
    · have hki : (k : Int) < ls.length := by omega
      obtain ⟨g, rfl, hrow⟩ := slots_row (own_below H.out HBR.out) hlt
      generalize hx : ls.getD k (0, false) = x at *
      obtain ⟨x, b⟩ := x
      have HX := Lib.hid hx
      clear hx
      go_wp2_with fail
      refine (takeFree_any x b _).mono ?_
      rintro e w1 ⟨rfl, hb1⟩
      have HB1 := Lib.hid (HBR.out.trans (hb1.mono HBR.out.size))
      clear hb1
      cases hF : freeB (x, b)
      · have HF := Lib.hid hF
        clear hF
        go_wp2_with fail
        go_roundw
        case rel =>
          refine ⟨k + 1, by omega, by go_num, fun j hj => ?_, HB1.out⟩
          by_cases hjk : j = k
          · rw [hjk, HX.out]; exact HF.out
          · exact HBEF.out j (by omega)
        case measure => simp [intOf]; omega
      · have HIX : Hid (freeIx ls = (k : Int)) := by
          have : ls.findIdx freeB = k := by
            rw [List.findIdx_eq hlt]
            have hgd : ls.getD k (0, false) = ls[k] := by simp [List.getD, List.getElem?_eq_getElem hlt]
            refine ⟨by rw [← hgd, HX.out]; exact hF, fun j hj => ?_⟩
            have := HBEF.out j hj
            simpa [List.getD, List.getElem?_eq_getElem (show j < ls.length by omega)] using this
          unfold Hid freeIx
          rw [this, if_pos hlt]
        clear hF
        go_wp2_with fail
        go_ret
        exact ⟨ret_int HIX.out.symm, HB1.out⟩
    · have HIX : Hid (freeIx ls = -1) := by
        unfold Hid freeIx
        rw [if_neg]
        intro hlt'
        have h1 := List.findIdx_getElem (w := hlt')
        have h2 := HBEF.out (ls.findIdx freeB) (by omega)
        simp only [List.getD, List.getElem?_eq_getElem hlt', Option.getD_some] at h2
        rw [h2] at h1; exact absurd h1 (by simp)
      go_wp2_with fail
      go_ret
      exact ⟨ret_int HIX.out.symm, HBR.out⟩

end Go.Proofs.YtpgcghnlepnoiaaGreatDoor

/-
  Slices of struct values of one's own, as the readers read them.
-/
namespace Go.Proofs.YtpgcghnlepnoiaaGreatDoor
open Go.RowKit

theorem row_after {w w' : World} {g o n : Nat} {x : Array Value} (hb : Below w.heap.size w w') (h : row? w g o n = some x) : row? w' g o n = some x := by
  have hlt : g < w.heap.size := by
    unfold row? at h
    split at h
    · rename_i hg; exact (Array.getElem?_eq_some_iff.1 hg).1
    · cases h
  rw [row_below hb hlt]; exact h
theorem row_alloc {w : World} {g o n : Nat} {x : Array Value} (ob : Obj) (h : row? w g o n = some x) : row? (w.alloc ob) g o n = some x := row_after ((Below.refl _ _).alloc (Nat.le_refl _) _) h
theorem In.newLit {G : Nat → Prop} {w0 w : World} {l : List Assn} (h : In G w0 l w) (E : TypeId) (size n : Nat) (xs : List Value) (hl : xs.length = n * size) (hn : n ≤ maxLen) : In G w0 (RowA E size (.slice (some ⟨w.heap.size, 0, none⟩) n n) n xs :: l) (w.alloc (.cells xs.toArray E)) :=
  h.new (A := RowA E size (.slice (some ⟨w.heap.size, 0, none⟩) n n) n xs) ((Below.refl _ _).alloc (Nat.le_refl _) _)
    ⟨⟨hl, Or.inr ⟨w.heap.size, n, xs.toArray, rfl, Nat.zero_le _, heap_alloc_new w _, Nat.le_refl _, hn, by simpa using hl, by simp [← hl]⟩⟩, fun k hk => by simp [Value.ownBlock] at hk; omega⟩
theorem own_chunks {α : Type} {enc : α → List Value} {f : α → List Int} {size : Nat} {w : World} {E : TypeId} {v : Value} {xs : List α} (he : ∀ x, enc x = (f x).map (Value.int .i64)) (hf : ∀ x, (f x).length = size)
    (h : w.ownsRow 0 E size v xs.length (xs.flatMap enc)) : ∃ A c, v = .slice A xs.length c ∧ xs.length ≤ c ∧ c ≤ maxLen ∧ Chunks w w.heap.size size A (xs.map f) ∧ (0 < xs.length → ∃ g, A = some ⟨g, 0, none⟩) := by
  obtain ⟨A, c, rfl, hc1, hc2, hA⟩ := own_form h
  refine ⟨A, c, rfl, hc1, hc2, ⟨fun r hr => by obtain ⟨x, _, rfl⟩ := List.mem_map.1 hr; exact hf x, fun h0 => ?_⟩, hA⟩
  rw [List.length_map] at h0
  obtain ⟨g, rfl⟩ := hA h0
  refine ⟨g, 0, rfl, (h.lt g rfl).2, fun k r hr => ?_⟩
  rw [List.getElem?_map] at hr
  obtain ⟨x, hx, rfl⟩ := Option.map_eq_some_iff.1 hr
  obtain ⟨hk, rfl⟩ := List.getElem?_eq_some_iff.1 hx
  have := own_row h hk
  rw [flat_at (fun x => by rw [he, List.length_map, hf]) xs k hk, he] at this
  rw [Nat.zero_add]
  exact this
theorem Chunks.take {w : World} {B size : Nat} {A : Option Addr} {rs : List (List Int)} (h : Chunks w B size A rs) (k : Nat) : Chunks w B size A (rs.take k) := by
  refine ⟨fun r hr => h.1 r (List.mem_of_mem_take hr), fun h0 => ?_⟩
  obtain ⟨b, o, e, hb, hr⟩ := h.2 (by rw [List.length_take] at h0; omega)
  exact ⟨b, o, e, hb, fun j r hj => hr j r (by rw [List.getElem?_take] at hj; split at hj; exact hj; cases hj)⟩
theorem map_inj' {α β : Type} {f : α → β} (hf : ∀ a b, f a = f b → a = b) : ∀ {xs ys : List α}, xs.map f = ys.map f → xs = ys
  | [], [], _ => rfl
  | [], _ :: _, h => by simp at h
  | _ :: _, [], h => by simp at h
  | x :: xs, y :: ys, h => by
    rw [List.map_cons, List.map_cons] at h
    injection h with h1 h2
    rw [hf _ _ h1, map_inj' hf h2]

end Go.Proofs.YtpgcghnlepnoiaaGreatDoor
