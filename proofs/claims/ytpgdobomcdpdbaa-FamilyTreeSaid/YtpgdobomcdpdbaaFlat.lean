/-
  Structs all of whose cells are ints, as lists of ints: load, store, compare, box.
-/
import Derived.Test.YtpgdobomcdpdbaaBase
import Derived.Laws.StructEq
import Derived.Laws.ResultCell
namespace Go.Proofs.Ytpgdobomcdpdbaa
open Go.RowKit

/-- ints as cells -/
def ints (xs : List Int) : Array Value := (xs.map (Value.int .i64)).toArray
theorem ints_size (xs : List Int) : (ints xs).size = xs.length := by simp [ints]
theorem ints_get (xs : List Int) (i : Nat) : (ints xs)[i]? = xs[i]?.map (Value.int .i64) := by simp [ints]
theorem ints_at {xs : List Int} {i : Nat} (h : i < xs.length) : (ints xs)[i]? = some (.int .i64 xs[i]) := by rw [ints_get, List.getElem?_eq_getElem h]; rfl
theorem ints_set (xs : List Int) (i : Nat) (x : Int) : (ints xs).setIfInBounds i (.int .i64 x) = ints (xs.set i x) := by
  unfold ints
  rw [List.setIfInBounds_toArray, List.map_set]
theorem ints_inj {xs ys : List Int} (h : ints xs = ints ys) : xs = ys := by
  have h2 := List.map_inj_right (f := Value.int .i64) (l := xs) (l' := ys) (fun a b e => by injection e)
  exact h2.1 (by simpa [ints] using h)
theorem ints_toList (xs : List Int) : (ints xs).toList = xs.map (Value.int .i64) := by simp [ints]

/-- the n cells from ⟨g, o⟩ on, where the block holds them all -/
def row? (w : World) (g o n : Nat) : Option (Array Value) :=
  match w.heap[g]? with
  | some (.cells cs _ _) => if o + n ≤ cs.size then some (cs.extract o (o + n)) else none
  | _ => none

theorem Blk.row {w : World} {g : Nat} {t : TypeId} {cs : Array Value} (h : Blk w g t cs) (o n : Nat) (hn : o + n ≤ cs.size) : row? w g o n = some (cs.extract o (o + n)) := by
  unfold Blk at h
  simp [row?, h, hn]
theorem Blk.row_all {w : World} {g : Nat} {t : TypeId} {xs : List Int} (h : Blk w g t (ints xs)) {n : Nat} (hn : xs.length = n) : row? w g 0 n = some (ints xs) := by
  rw [Blk.row h 0 n (by rw [ints_size]; omega), Nat.zero_add, ← hn, ← ints_size, Array.extract_size]
theorem Blk.row_ints {w : World} {g : Nat} {t : TypeId} {xs : List Int} (h : Blk w g t (ints xs)) (o n : Nat) (hn : o + n ≤ xs.length) : row? w g o n = some (ints ((xs.drop o).take n)) := by
  rw [Blk.row h o n (by rw [ints_size]; omega)]
  congr 1
  apply Array.ext'
  rw [Array.toList_extract, ints_toList, ints_toList, List.extract_eq_take_drop, Nat.add_sub_cancel_left, List.map_take, List.map_drop]
theorem Blk.int {w : World} {g : Nat} {t : TypeId} {xs : List Int} (h : Blk w g t (ints xs)) (i : Nat) (hi : i < xs.length) : w.cell? ⟨g, i, none⟩ = some (.int .i64 xs[i]) := by
  rw [Blk.cell h, ints_at hi]
theorem Blk.set {w : World} {g : Nat} {t : TypeId} {cs : Array Value} (h : Blk w g t cs) (i : Nat) (v : Value) : Blk (w.setCell ⟨g, i, none⟩ v) g t (cs.setIfInBounds i v) := by
  unfold Blk at h ⊢
  simp [World.setCell, Array.getElem?_modify, h]
theorem Blk.far {w : World} {g g' : Nat} {t : TypeId} {cs : Array Value} (h : Blk w g t cs) (hne : g ≠ g') (i : Nat) (v : Value) : Blk (w.setCell ⟨g', i, none⟩ v) g t cs := (Below.heap_setCell w ⟨g', i, none⟩ v g hne).trans h

/-- a load that is not understood: never met -/
def slowLoad (t : TypeId) (a : Addr) : Sem Value := loadVar t a

section
variable {P : Program}
theorem run_loadCells_at (w : World) (g o : Nat) (cs : Array Value) (t : TypeId) (fr : Nat × Nat) (hg : w.heap[g]? = some (.cells cs t fr)) (n : Nat) (hn : o + n ≤ cs.size) :
    (loadCells ⟨g, o, none⟩ n).run P w = .ok (cs.extract o (o + n)) w := by
  have h := run_loadCells_list (P := P) w ⟨g, o, none⟩ (cs.extract o (o + n)).toList (fun j v hv => by
    rw [Addr.add_lit, cell_of_row w g (o + j) cs t fr hg]
    rw [Array.getElem?_toList] at hv
    rw [Array.getElem?_extract] at hv
    split at hv
    · exact hv
    · cases hv)
  have hs : (cs.extract o (o + n)).toList.length = n := by simp; omega
  rw [hs, Array.toArray_toList] at h
  exact h

theorem run_loadVar_agg (w : World) (ty : TypeId) (g o n : Nat) (d : TypeDesc) (hu : P.underlying ty = some d) (hd : (match d with | .struct _ | .array _ _ => true | _ => false) = true) (hi : (P.info? ty).map (·.size) = some n) :
    (loadVar ty ⟨g, o, none⟩).run P w = match row? w g o n with | some cs => .ok (.agg cs) w | none => (slowLoad ty ⟨g, o, none⟩).run P w := by
  split
  · rename_i cs hr
    unfold row? at hr
    split at hr
    · rename_i cs' t fr hg
      split at hr
      · rename_i hn
        have hl := run_loadCells_at (P := P) w g o cs' t fr hg n hn
        cases hq : P.info? ty with
        | none => simp [hq] at hi
        | some i =>
          have hs : i.size = n := by simpa [hq] using hi
          have hagg : (isAgg ty).run P w = .ok true w := by
            unfold isAgg
            rw [Sem.run_bind, run_underlying hu w]
            cases d <;> simp_all
          simp only [Option.some.injEq] at hr
          simp [loadVar, Sem.run_bind, hagg, sizeOf, typeInfo, hq, hs, hl, hr]
      · cases hr
    · cases hr
  · rfl

end

/-- a struct's load, behind a name of its own -/
def rowLoad (t : TypeId) (v : Value) : Sem Value := Instr.loadAt t v

/-- a struct's store: where it fits -/
def fits (w : World) (g o n : Nat) : Bool :=
  match w.heap[g]? with
  | some (.cells cs _ (0, 0)) => decide (o + n ≤ cs.size)
  | _ => false
def putRow (w : World) (g o : Nat) (xs : List Int) : World :=
  { w with heap := w.heap.modify g fun
      | .cells cs e fr => .cells (cs.toList.take o ++ xs.map (Value.int .i64) ++ cs.toList.drop (o + xs.length)).toArray e fr
      | o => o }
def rowStore (t : TypeId) (p v : Value) : Sem Unit := Instr.storeAt t p v
def slowStore (t : TypeId) (g o : Nat) (v : Value) : Sem Unit := storeVar t ⟨g, o, none⟩ v

theorem Blk.fits {w : World} {g : Nat} {t : TypeId} {cs : Array Value} (h : Blk w g t cs) (o n : Nat) (hn : o + n ≤ cs.size) : fits w g o n = true := by
  unfold Blk at h
  unfold Go.Proofs.Ytpgdobomcdpdbaa.fits
  rw [h]
  simpa using hn
theorem Blk.put {w : World} {g : Nat} {t : TypeId} {ys : List Int} (h : Blk w g t (ints ys)) (o : Nat) (xs : List Int) : Blk (putRow w g o xs) g t (ints (ys.take o ++ xs ++ ys.drop (o + xs.length))) := by
  unfold Blk at h ⊢
  simp [putRow, Array.getElem?_modify, h, ints_toList]
  simp [ints]
theorem Blk.put_all {w : World} {g : Nat} {t : TypeId} {ys : List Int} (h : Blk w g t (ints ys)) (xs : List Int) (hl : xs.length = ys.length) : Blk (putRow w g 0 xs) g t (ints xs) := by
  have := h.put 0 xs
  rwa [List.take_zero, List.nil_append, Nat.zero_add, hl, List.drop_length, List.append_nil] at this
@[go_sem] theorem fits_alloc_new (w : World) (cs : Array Value) (t : TypeId) (o n : Nat) : Go.Proofs.Ytpgdobomcdpdbaa.fits (w.alloc (.cells cs t)) w.heap.size o n = decide (o + n ≤ cs.size) := by
  have h : (w.alloc (.cells cs t)).heap[w.heap.size]? = some (.cells cs t (0, 0)) := heap_alloc_new w _
  unfold Go.Proofs.Ytpgdobomcdpdbaa.fits
  rw [h]
  rfl
attribute [go_sem] ints_size
@[go_sem] theorem row_drew (w : World) (g o n : Nat) : row? w.drew g o n = row? w g o n := rfl
@[go_sem] theorem fits_drew (w : World) (g o n : Nat) : Go.Proofs.Ytpgdobomcdpdbaa.fits w.drew g o n = Go.Proofs.Ytpgdobomcdpdbaa.fits w g o n := rfl
@[go_sem] theorem putRow_drew (w : World) (g o : Nat) (xs : List Int) : putRow w.drew g o xs = (putRow w g o xs).drew := rfl
theorem putRow_other (w : World) (g o : Nat) (xs : List Int) (k : Nat) (h : k ≠ g) : (putRow w g o xs).heap[k]? = w.heap[k]? := by
  simp [putRow, Array.getElem?_modify, Ne.symm h]
theorem Blk.put_far {w : World} {g g' : Nat} {t : TypeId} {cs : Array Value} (h : Blk w g t cs) (o : Nat) (xs : List Int) (hne : g ≠ g') : Blk (putRow w g' o xs) g t cs := (putRow_other w g' o xs g hne).trans h
theorem putRow_size (w : World) (g o : Nat) (xs : List Int) : (putRow w g o xs).heap.size = w.heap.size := by simp [putRow]
theorem below_put {B : Nat} {a w : World} (h : Below B a w) {g : Nat} (hg : B ≤ g) (o : Nat) (xs : List Int) : Below B a (putRow w g o xs) :=
  h.trans ⟨rfl, rfl, rfl, by rw [putRow_size]; exact Nat.le_refl _, fun k hk => putRow_other w g o xs k (by omega)⟩

section
variable {P : Program}
theorem run_rowLoad (w : World) (ty : TypeId) (g o n : Nat) (d : TypeDesc) (hu : P.underlying ty = some d) (hd : (match d with | .struct _ | .array _ _ => true | _ => false) = true) (hi : (P.info? ty).map (·.size) = some n) :
    (rowLoad ty (.pointer (some ⟨g, o, none⟩))).run P w = match row? w g o n with | some cs => .ok (.agg cs) w | none => (slowLoad ty ⟨g, o, none⟩).run P w := run_loadVar_agg w ty g o n d hu hd hi
theorem run_rowStore (w : World) (ty : TypeId) (g o n : Nat) (xs : List Int) (hi : (P.info? ty).map (·.size) = some n) :
    (rowStore ty (.pointer (some ⟨g, o, none⟩)) (.agg (ints xs))).run P w = if fits w g o n = true ∧ xs.length = n then .ok () (putRow w g o xs) else (slowStore ty g o (.agg (ints xs))).run P w := by
  split
  · rename_i h
    obtain ⟨hf, hl⟩ := h
    unfold fits at hf
    split at hf
    · rename_i cs e hg
      have hn : o + n ≤ cs.size := by simpa using hf
      cases hq : P.info? ty with
      | none => simp [hq] at hi
      | some i =>
        have hs : i.size = n := by simpa [hq] using hi
        have hst := run_storeCells_at P g o e (xs.map (Value.int .i64)) 0 cs w hg (by simp; omega) (by intro v hv; obtain ⟨x, _, rfl⟩ := List.mem_map.1 hv; rfl)
        have hlen : (ints xs).size = i.size := by rw [ints_size]; omega
        simp only [rowStore, Instr.storeAt, Instr.sureAddr, storeVar, Sem.run_bind, sizeOf, typeInfo, run_program, Result.andThen_ok, hq, Sem.run_pure, Value.cells, hlen, ne_eq, not_true_eq_false, if_false, ints_toList, hst]
        congr 1
        unfold putRow World.setRow
        congr 1
        apply Array.ext_getElem?
        intro k
        rw [Array.getElem?_modify, Array.getElem?_modify]
        split
        · rename_i hk
          subst hk
          rw [hg]
          simp
        · rfl
    · cases hf
  · rfl
end

/-- a new struct, and what is stored there at once -/
theorem blk_new_put (w : World) (t : TypeId) (ys xs : List Int) (hl : xs.length = ys.length) : Blk (putRow (w.alloc (.cells (ints ys) t)) w.heap.size 0 xs) w.heap.size t (ints xs) := (Blk.new w t (ints ys)).put_all xs hl
theorem below_new_put (w : World) (t : TypeId) (ys xs : List Int) : Below w.heap.size w (putRow (w.alloc (.cells (ints ys) t)) w.heap.size 0 xs) := below_put ((Below.refl _ _).alloc (Nat.le_refl _) _) (Nat.le_refl _) _ _

/-- a struct result and one more -/
theorem results_row_tmp {P : Program} {fn : Func} {p u : Tmp} {ty : TypeId} (h : fn.results = #[.cell p ty, .tmp u]) (tmps : Array Value) (w : World) (g : Nat) (t : TypeId) (cs : Array Value) (fr : Nat × Nat) (d : TypeDesc)
    (hp : tmps.getD p undef = .pointer (some ⟨g, 0, none⟩)) (hg : w.heap[g]? = some (.cells cs t fr))
    (hu : P.underlying ty = some d) (hd : (match d with | .struct _ | .array _ _ => true | _ => false) = true) (hi : (P.info? ty).map (·.size) = some cs.size) :
    (results fn tmps).run P w = .ok (.tuple #[.agg cs, tmps.getD u undef]) w := by
  rw [results_cell_tmp h, hp]
  simp [asAddr, run_loadVar_row w g t ty cs fr d hg hu hd hi]

theorem bodyPost_row_tmp {P : Program} {fn : Func} {R : Ending → World → Prop} {a : Act} {w : World} {p u : Tmp} {ty : TypeId} (h : fn.results = #[.cell p ty, .tmp u]) (g : Nat) (t : TypeId) (cs : Array Value) (x : Value) (d : TypeDesc)
    (hp : a.tmps.getD p undef = .pointer (some ⟨g, 0, none⟩)) (hx : a.tmps.getD u undef = x) (hg : Blk w g t cs)
    (hu : P.underlying ty = some d) (hd : (match d with | .struct _ | .array _ _ => true | _ => false) = true) (hi : (P.info? ty).map (·.size) = some cs.size)
    (hdf : a.defers = []) (hR : R (.returned (.tuple #[.agg cs, x])) w) : bodyPost P fn R .ret a w :=
  bodyPost_ret (by rw [results_row_tmp h a.tmps w g t cs (0, 0) d hp hg hu hd hi, hx]) hdf hR
theorem bodyPost_row {P : Program} {fn : Func} {R : Ending → World → Prop} {a : Act} {w : World} {p : Tmp} {ty : TypeId} (h : fn.results = #[.cell p ty]) (g : Nat) (t : TypeId) (cs : Array Value) (d : TypeDesc)
    (hp : a.tmps.getD p undef = .pointer (some ⟨g, 0, none⟩)) (hg : Blk w g t cs)
    (hu : P.underlying ty = some d) (hd : (match d with | .struct _ | .array _ _ => true | _ => false) = true) (hi : (P.info? ty).map (·.size) = some cs.size)
    (hdf : a.defers = []) (hR : R (.returned (.agg cs)) w) : bodyPost P fn R .ret a w :=
  bodyPost_ret (results_cell_row h a.tmps w g t cs (0, 0) d hp hg hu hd hi) hdf hR

/-- name the world's parts and forget how it was made -/
theorem wp_abs {P : Program} {c : Code} {Q : Exit → Act → World → Prop} {a : Act} {w : World} (R : World → Prop) (hR : R w) (h : ∀ w', R w' → c.wp P Q a w') : c.wp P Q a w := h w hR

end Go.Proofs.Ytpgdobomcdpdbaa
