/-
  Several texts in one (merged by a program of mine): Flat, FlatEq, Structs, Build.
-/
import Derived.Test.YtpgcghnlepnoiaaGreatDoorTP6
import Derived.Laws.StructEq
import Derived.Laws.ResultCell
set_option linter.unusedVariables false
set_option linter.unusedSimpArgs false
set_option linter.unusedSectionVars false
/-
  Structs all of whose cells are ints, as lists of ints: load, store, compare, box.
-/
namespace Go.Proofs.YtpgcghnlepnoiaaGreatDoor
open Go.RowKit

/-- ints as cells -/
def ints (xs : List Int) : Array Value := (xs.map (Value.int .i64)).toArray
theorem ints_size (xs : List Int) : (ints xs).size = xs.length := by simp [ints]
theorem ints_get (xs : List Int) (i : Nat) : (ints xs)[i]? = xs[i]?.map (Value.int .i64) := by simp [ints]
theorem ints_at {xs : List Int} {i : Nat} (h : i < xs.length) : (ints xs)[i]? = some (.int .i64 xs[i]) := by rw [ints_get, List.getElem?_eq_getElem h]; rfl
theorem ints_set (xs : List Int) (i : Nat) (x : Int) : (ints xs).setIfInBounds i (.int .i64 x) = ints (xs.set i x) := by
  unfold ints
  rw [List.setIfInBounds_toArray, List.map_set]
theorem ints_inj {xs ys : List Int} (h : ints xs = ints ys) : xs = ys := by
  have h2 := List.map_inj_right (f := Value.int .i64) (l := xs) (l' := ys) (fun a b e => by injection e)
  exact h2.1 (by simpa [ints] using h)
theorem ints_toList (xs : List Int) : (ints xs).toList = xs.map (Value.int .i64) := by simp [ints]

/-- the n cells from ⟨g, o⟩ on, where the block holds them all -/
def row? (w : World) (g o n : Nat) : Option (Array Value) :=
  match w.heap[g]? with
  | some (.cells cs _ _) => if o + n ≤ cs.size then some (cs.extract o (o + n)) else none
  | _ => none

theorem Blk.row {w : World} {g : Nat} {t : TypeId} {cs : Array Value} (h : Blk w g t cs) (o n : Nat) (hn : o + n ≤ cs.size) : row? w g o n = some (cs.extract o (o + n)) := by
  unfold Blk at h
  simp [row?, h, hn]
theorem Blk.row_all {w : World} {g : Nat} {t : TypeId} {xs : List Int} (h : Blk w g t (ints xs)) {n : Nat} (hn : xs.length = n) : row? w g 0 n = some (ints xs) := by
  rw [Blk.row h 0 n (by rw [ints_size]; omega), Nat.zero_add, ← hn, ← ints_size, Array.extract_size]
theorem Blk.row_ints {w : World} {g : Nat} {t : TypeId} {xs : List Int} (h : Blk w g t (ints xs)) (o n : Nat) (hn : o + n ≤ xs.length) : row? w g o n = some (ints ((xs.drop o).take n)) := by
  rw [Blk.row h o n (by rw [ints_size]; omega)]
  congr 1
  apply Array.ext'
  rw [Array.toList_extract, ints_toList, ints_toList, List.extract_eq_take_drop, Nat.add_sub_cancel_left, List.map_take, List.map_drop]
theorem Blk.int {w : World} {g : Nat} {t : TypeId} {xs : List Int} (h : Blk w g t (ints xs)) (i : Nat) (hi : i < xs.length) : w.cell? ⟨g, i, none⟩ = some (.int .i64 xs[i]) := by
  rw [Blk.cell h, ints_at hi]
theorem Blk.set {w : World} {g : Nat} {t : TypeId} {cs : Array Value} (h : Blk w g t cs) (i : Nat) (v : Value) : Blk (w.setCell ⟨g, i, none⟩ v) g t (cs.setIfInBounds i v) := by
  unfold Blk at h ⊢
  simp [World.setCell, Array.getElem?_modify, h]
theorem Blk.far {w : World} {g g' : Nat} {t : TypeId} {cs : Array Value} (h : Blk w g t cs) (hne : g ≠ g') (i : Nat) (v : Value) : Blk (w.setCell ⟨g', i, none⟩ v) g t cs := (Below.heap_setCell w ⟨g', i, none⟩ v g hne).trans h

/-- a load that is not understood: never met -/
def slowLoad (t : TypeId) (a : Addr) : Sem Value := loadVar t a

section
variable {P : Program}
theorem run_loadCells_at (w : World) (g o : Nat) (cs : Array Value) (t : TypeId) (fr : Nat × Nat) (hg : w.heap[g]? = some (.cells cs t fr)) (n : Nat) (hn : o + n ≤ cs.size) :
    (loadCells ⟨g, o, none⟩ n).run P w = .ok (cs.extract o (o + n)) w := by
  have h := run_loadCells_list (P := P) w ⟨g, o, none⟩ (cs.extract o (o + n)).toList (fun j v hv => by
    rw [Addr.add_lit, cell_of_row w g (o + j) cs t fr hg]
    rw [Array.getElem?_toList] at hv
    rw [Array.getElem?_extract] at hv
    split at hv
    · exact hv
    · cases hv)
  have hs : (cs.extract o (o + n)).toList.length = n := by simp; omega
  rw [hs, Array.toArray_toList] at h
  exact h

theorem run_loadVar_agg (w : World) (ty : TypeId) (g o n : Nat) (d : TypeDesc) (hu : P.underlying ty = some d) (hd : (match d with | .struct _ | .array _ _ => true | _ => false) = true) (hi : (P.info? ty).map (·.size) = some n) :
    (loadVar ty ⟨g, o, none⟩).run P w = match row? w g o n with | some cs => .ok (.agg cs) w | none => (slowLoad ty ⟨g, o, none⟩).run P w := by
  split
  · rename_i cs hr
    unfold row? at hr
    split at hr
    · rename_i cs' t fr hg
      split at hr
      · rename_i hn
        have hl := run_loadCells_at (P := P) w g o cs' t fr hg n hn
        cases hq : P.info? ty with
        | none => simp [hq] at hi
        | some i =>
          have hs : i.size = n := by simpa [hq] using hi
          have hagg : (isAgg ty).run P w = .ok true w := by
            unfold isAgg
            rw [Sem.run_bind, run_underlying hu w]
            cases d <;> simp_all
          simp only [Option.some.injEq] at hr
          simp [loadVar, Sem.run_bind, hagg, sizeOf, typeInfo, hq, hs, hl, hr]
      · cases hr
    · cases hr
  · rfl

end

/-- a struct's load, behind a name of its own -/
def rowLoad (t : TypeId) (v : Value) : Sem Value := Instr.loadAt t v

/-- a struct's store: where it fits -/
def fits (w : World) (g o n : Nat) : Bool :=
  match w.heap[g]? with
  | some (.cells cs _ (0, 0)) => decide (o + n ≤ cs.size)
  | _ => false
def putRow (w : World) (g o : Nat) (xs : List Int) : World :=
  { w with heap := w.heap.modify g fun
      | .cells cs e fr => .cells (cs.toList.take o ++ xs.map (Value.int .i64) ++ cs.toList.drop (o + xs.length)).toArray e fr
      | o => o }
def rowStore (t : TypeId) (p v : Value) : Sem Unit := Instr.storeAt t p v
def slowStore (t : TypeId) (g o : Nat) (v : Value) : Sem Unit := storeVar t ⟨g, o, none⟩ v

theorem Blk.fits {w : World} {g : Nat} {t : TypeId} {cs : Array Value} (h : Blk w g t cs) (o n : Nat) (hn : o + n ≤ cs.size) : fits w g o n = true := by
  unfold Blk at h
  unfold Go.Proofs.YtpgcghnlepnoiaaGreatDoor.fits
  rw [h]
  simpa using hn
theorem Blk.put {w : World} {g : Nat} {t : TypeId} {ys : List Int} (h : Blk w g t (ints ys)) (o : Nat) (xs : List Int) : Blk (putRow w g o xs) g t (ints (ys.take o ++ xs ++ ys.drop (o + xs.length))) := by
  unfold Blk at h ⊢
  simp [putRow, Array.getElem?_modify, h, ints_toList]
  simp [ints]
theorem Blk.put_all {w : World} {g : Nat} {t : TypeId} {ys : List Int} (h : Blk w g t (ints ys)) (xs : List Int) (hl : xs.length = ys.length) : Blk (putRow w g 0 xs) g t (ints xs) := by
  have := h.put 0 xs
  rwa [List.take_zero, List.nil_append, Nat.zero_add, hl, List.drop_length, List.append_nil] at this
@[go_sem] theorem fits_alloc_new (w : World) (cs : Array Value) (t : TypeId) (o n : Nat) : Go.Proofs.YtpgcghnlepnoiaaGreatDoor.fits (w.alloc (.cells cs t)) w.heap.size o n = decide (o + n ≤ cs.size) := by
  have h : (w.alloc (.cells cs t)).heap[w.heap.size]? = some (.cells cs t (0, 0)) := heap_alloc_new w _
  unfold Go.Proofs.YtpgcghnlepnoiaaGreatDoor.fits
  rw [h]
  rfl
attribute [go_sem] ints_size
@[go_sem] theorem row_drew (w : World) (g o n : Nat) : row? w.drew g o n = row? w g o n := rfl
@[go_sem] theorem fits_drew (w : World) (g o n : Nat) : Go.Proofs.YtpgcghnlepnoiaaGreatDoor.fits w.drew g o n = Go.Proofs.YtpgcghnlepnoiaaGreatDoor.fits w g o n := rfl
@[go_sem] theorem putRow_drew (w : World) (g o : Nat) (xs : List Int) : putRow w.drew g o xs = (putRow w g o xs).drew := rfl
theorem putRow_other (w : World) (g o : Nat) (xs : List Int) (k : Nat) (h : k ≠ g) : (putRow w g o xs).heap[k]? = w.heap[k]? := by
  simp [putRow, Array.getElem?_modify, Ne.symm h]
theorem Blk.put_far {w : World} {g g' : Nat} {t : TypeId} {cs : Array Value} (h : Blk w g t cs) (o : Nat) (xs : List Int) (hne : g ≠ g') : Blk (putRow w g' o xs) g t cs := (putRow_other w g' o xs g hne).trans h
theorem putRow_size (w : World) (g o : Nat) (xs : List Int) : (putRow w g o xs).heap.size = w.heap.size := by simp [putRow]
theorem below_put {B : Nat} {a w : World} (h : Below B a w) {g : Nat} (hg : B ≤ g) (o : Nat) (xs : List Int) : Below B a (putRow w g o xs) :=
  h.trans ⟨rfl, rfl, rfl, by rw [putRow_size]; exact Nat.le_refl _, fun k hk => putRow_other w g o xs k (by omega)⟩

section
variable {P : Program}
theorem run_rowLoad (w : World) (ty : TypeId) (g o n : Nat) (d : TypeDesc) (hu : P.underlying ty = some d) (hd : (match d with | .struct _ | .array _ _ => true | _ => false) = true) (hi : (P.info? ty).map (·.size) = some n) :
    (rowLoad ty (.pointer (some ⟨g, o, none⟩))).run P w = match row? w g o n with | some cs => .ok (.agg cs) w | none => (slowLoad ty ⟨g, o, none⟩).run P w := run_loadVar_agg w ty g o n d hu hd hi
theorem run_rowStore (w : World) (ty : TypeId) (g o n : Nat) (xs : List Int) (hi : (P.info? ty).map (·.size) = some n) :
    (rowStore ty (.pointer (some ⟨g, o, none⟩)) (.agg (ints xs))).run P w = if fits w g o n = true ∧ xs.length = n then .ok () (putRow w g o xs) else (slowStore ty g o (.agg (ints xs))).run P w := by
  split
  · rename_i h
    obtain ⟨hf, hl⟩ := h
    unfold fits at hf
    split at hf
    · rename_i cs e hg
      have hn : o + n ≤ cs.size := by simpa using hf
      cases hq : P.info? ty with
      | none => simp [hq] at hi
      | some i =>
        have hs : i.size = n := by simpa [hq] using hi
        have hst := run_storeCells_at P g o e (xs.map (Value.int .i64)) 0 cs w hg (by simp; omega) (by intro v hv; obtain ⟨x, _, rfl⟩ := List.mem_map.1 hv; rfl)
        have hlen : (ints xs).size = i.size := by rw [ints_size]; omega
        simp only [rowStore, Instr.storeAt, Instr.sureAddr, storeVar, Sem.run_bind, sizeOf, typeInfo, run_program, Result.andThen_ok, hq, Sem.run_pure, Value.cells, hlen, ne_eq, not_true_eq_false, if_false, ints_toList, hst]
        congr 1
        unfold putRow World.setRow
        congr 1
        apply Array.ext_getElem?
        intro k
        rw [Array.getElem?_modify, Array.getElem?_modify]
        split
        · rename_i hk
          subst hk
          rw [hg]
          simp
        · rfl
    · cases hf
  · rfl
end

/-- a new struct, and what is stored there at once -/
theorem blk_new_put (w : World) (t : TypeId) (ys xs : List Int) (hl : xs.length = ys.length) : Blk (putRow (w.alloc (.cells (ints ys) t)) w.heap.size 0 xs) w.heap.size t (ints xs) := (Blk.new w t (ints ys)).put_all xs hl
theorem below_new_put (w : World) (t : TypeId) (ys xs : List Int) : Below w.heap.size w (putRow (w.alloc (.cells (ints ys) t)) w.heap.size 0 xs) := below_put ((Below.refl _ _).alloc (Nat.le_refl _) _) (Nat.le_refl _) _ _

/-- a struct result and one more -/
theorem results_row_tmp {P : Program} {fn : Func} {p u : Tmp} {ty : TypeId} (h : fn.results = #[.cell p ty, .tmp u]) (tmps : Array Value) (w : World) (g : Nat) (t : TypeId) (cs : Array Value) (fr : Nat × Nat) (d : TypeDesc)
    (hp : tmps.getD p undef = .pointer (some ⟨g, 0, none⟩)) (hg : w.heap[g]? = some (.cells cs t fr))
    (hu : P.underlying ty = some d) (hd : (match d with | .struct _ | .array _ _ => true | _ => false) = true) (hi : (P.info? ty).map (·.size) = some cs.size) :
    (results fn tmps).run P w = .ok (.tuple #[.agg cs, tmps.getD u undef]) w := by
  rw [results_cell_tmp h, hp]
  simp [asAddr, run_loadVar_row w g t ty cs fr d hg hu hd hi]

theorem bodyPost_row_tmp {P : Program} {fn : Func} {R : Ending → World → Prop} {a : Act} {w : World} {p u : Tmp} {ty : TypeId} (h : fn.results = #[.cell p ty, .tmp u]) (g : Nat) (t : TypeId) (cs : Array Value) (x : Value) (d : TypeDesc)
    (hp : a.tmps.getD p undef = .pointer (some ⟨g, 0, none⟩)) (hx : a.tmps.getD u undef = x) (hg : Blk w g t cs)
    (hu : P.underlying ty = some d) (hd : (match d with | .struct _ | .array _ _ => true | _ => false) = true) (hi : (P.info? ty).map (·.size) = some cs.size)
    (hdf : a.defers = []) (hR : R (.returned (.tuple #[.agg cs, x])) w) : bodyPost P fn R .ret a w :=
  bodyPost_ret (by rw [results_row_tmp h a.tmps w g t cs (0, 0) d hp hg hu hd hi, hx]) hdf hR
theorem bodyPost_row {P : Program} {fn : Func} {R : Ending → World → Prop} {a : Act} {w : World} {p : Tmp} {ty : TypeId} (h : fn.results = #[.cell p ty]) (g : Nat) (t : TypeId) (cs : Array Value) (d : TypeDesc)
    (hp : a.tmps.getD p undef = .pointer (some ⟨g, 0, none⟩)) (hg : Blk w g t cs)
    (hu : P.underlying ty = some d) (hd : (match d with | .struct _ | .array _ _ => true | _ => false) = true) (hi : (P.info? ty).map (·.size) = some cs.size)
    (hdf : a.defers = []) (hR : R (.returned (.agg cs)) w) : bodyPost P fn R .ret a w :=
  bodyPost_ret (results_cell_row h a.tmps w g t cs (0, 0) d hp hg hu hd hi) hdf hR

/-- name the world's parts and forget how it was made -/
theorem wp_abs {P : Program} {c : Code} {Q : Exit → Act → World → Prop} {a : Act} {w : World} (R : World → Prop) (hR : R w) (h : ∀ w', R w' → c.wp P Q a w') : c.wp P Q a w := h w hR

end Go.Proofs.YtpgcghnlepnoiaaGreatDoor

/-
  '==' and '!=' on structs all of whose cells are ints: as their lists of ints.
-/
namespace Go.Proofs.YtpgcghnlepnoiaaGreatDoor
open Go.RowKit

/-- fields that lie one behind the other, each of a type that 'ok' takes: where the last one ends -/
def fieldsE (P : Program) (ok : TypeId → Bool) : List Field → Nat → Option Nat
  | [], acc => some acc
  | f :: fs, acc => if (f.name != "_" && decide (f.offset = acc) && ok f.type) = true then fieldsE P ok fs (acc + P.cellsOf f.type) else none

def flatE (P : Program) : Nat → TypeId → Bool
  | 0, _ => false
  | n + 1, t => match P.underlying t with
    | some (.int .i64) => decide (P.cellsOf t = 1)
    | some (.struct fs) => !P.stoodInHeld t && (P.info? t).isSome && decide (fieldsE P (flatE P n) fs.toList 0 = some (P.cellsOf t))
    | some (.array m e) => (P.info? e).isSome && (P.info? t).isSome && flatE P n e && decide (P.cellsOf t = m * P.cellsOf e)
    | _ => false

/-- ints as a value of such a type -/
def valOf (P : Program) (t : TypeId) (xs : List Int) : Value := match P.underlying t with
  | some (.int _) => .int .i64 (xs.getD 0 0)
  | _ => .agg (ints xs)

def seg (xs : List Int) (a n : Nat) : List Int := (xs.drop a).take n
theorem seg_len {xs : List Int} {a n : Nat} (h : a + n ≤ xs.length) : (seg xs a n).length = n := by simp [seg]; omega
theorem seg_add (xs : List Int) (a n m : Nat) : seg xs a (n + m) = seg xs a n ++ seg xs (a + n) m := by
  unfold seg
  rw [List.take_add, List.drop_drop]
theorem seg_eq_add {xs ys : List Int} {a n m : Nat} (hx : a + n ≤ xs.length) (hy : a + n ≤ ys.length) : seg xs a (n + m) = seg ys a (n + m) ↔ seg xs a n = seg ys a n ∧ seg xs (a + n) m = seg ys (a + n) m := by
  rw [seg_add, seg_add]
  constructor
  · intro h; exact List.append_inj h (by rw [seg_len hx, seg_len hy])
  · rintro ⟨h1, h2⟩; rw [h1, h2]
theorem seg_all (xs : List Int) : seg xs 0 xs.length = xs := by simp [seg]

section
variable {P : Program}

theorem info_of_cells {t : TypeId} {n : Nat} (h : P.cellsOf t = n) (hp : 0 < n) : ∃ i, P.info? t = some i ∧ i.size = n := by
  unfold Program.cellsOf at h
  cases hi : P.info? t with
  | none => rw [hi] at h; simp at h; omega
  | some i => rw [hi] at h; exact ⟨i, rfl, by simpa using h⟩

theorem part_flat (w : World) (n : Nat) (t : TypeId) (xs : List Int) (o : Nat) (hB : flatE P n t = true) (hl : o + P.cellsOf t ≤ xs.length) :
    (part t (ints xs) o).run P w = .ok (valOf P t (seg xs o (P.cellsOf t))) w := by
  cases n with
  | zero => simp [flatE] at hB
  | succ n =>
    have agg : ∀ d, P.underlying t = some d → (match d with | .struct _ | .array _ _ => true | _ => false) = true → (P.info? t).isSome = true → (part t (ints xs) o).run P w = .ok (.agg (ints (seg xs o (P.cellsOf t)))) w := by
      intro d hu hd hi
      have hagg : (isAgg t).run P w = .ok true w := by
        unfold isAgg
        rw [Sem.run_bind, run_underlying hu w]
        cases d <;> simp_all
      obtain ⟨i, hq⟩ := Option.isSome_iff_exists.1 hi
      have hc : P.cellsOf t = i.size := by simp [Program.cellsOf, hq]
      simp [part, Sem.run_bind, hagg, sizeOf, typeInfo, hq, hc]
      apply Array.ext'
      rw [Array.toList_extract, ints_toList, ints_toList, List.extract_eq_take_drop, Nat.add_sub_cancel_left, seg, List.map_take, List.map_drop]
    unfold flatE at hB
    split at hB
    · rename_i hu
      have hc : P.cellsOf t = 1 := by simpa using hB
      rw [hc] at hl ⊢
      have hagg : (isAgg t).run P w = .ok false w := by
        unfold isAgg
        rw [Sem.run_bind, run_underlying hu w]
        rfl
      have ho : (ints xs)[o]? = some (.int .i64 (xs[o]'(by omega))) := ints_at (by omega)
      have hs : (seg xs o 1).getD 0 0 = xs[o]'(by omega) := by
        simp only [seg, List.getD, List.getElem?_take, Nat.zero_lt_one, if_true, List.getElem?_drop, Nat.add_zero]
        rw [List.getElem?_eq_getElem (by omega)]; rfl
      simp [part, Sem.run_bind, hagg, ho, valOf, hu]
      simpa using hs.symm
    · rename_i fs hu
      simp only [Bool.and_eq_true] at hB
      rw [agg _ hu rfl hB.1.2]
      simp [valOf, hu]
    · rename_i m e hu
      simp only [Bool.and_eq_true] at hB
      rw [agg _ hu rfl hB.1.1.2]
      simp [valOf, hu]
    · cases hB

theorem decide_and {p q : Prop} [Decidable p] [Decidable q] : decide (p ∧ q) = (decide p && decide q) := by
  by_cases hp : p <;> by_cases hq : q <;> simp [hp, hq]

theorem eqFields_flat (n d : Nat) (xs ys : List Int) (ih : ∀ (t : TypeId) (xs ys : List Int) (w : World), flatE P n t = true → xs.length = P.cellsOf t → ys.length = P.cellsOf t → (Op.equalIn (d + n) t (valOf P t xs) (valOf P t ys)).run P w = .ok (decide (xs = ys)) w) :
    ∀ (fs : List Field) (acc e : Nat) (w : World), fieldsE P (flatE P n) fs acc = some e → e ≤ xs.length → e ≤ ys.length → acc ≤ e ∧ (Op.eqFields (d + n) (ints xs) (ints ys) fs).run P w = .ok (decide (seg xs acc (e - acc) = seg ys acc (e - acc))) w
  | [], acc, e, w, h, _, _ => by
    simp only [fieldsE, Option.some.injEq] at h
    subst h
    exact ⟨Nat.le_refl _, by simp [Op.eqFields, seg]⟩
  | f :: fs, acc, e, w, h, hx, hy => by
    unfold fieldsE at h
    split at h
    · rename_i hc
      simp only [Bool.and_eq_true, bne_iff_ne, ne_eq, decide_eq_true_eq] at hc
      obtain ⟨⟨hn, ho⟩, hB⟩ := hc
      obtain ⟨hle, hr⟩ := eqFields_flat n d xs ys ih fs _ e w h hx hy
      have hse : e - acc = P.cellsOf f.type + (e - (acc + P.cellsOf f.type)) := by omega
      refine ⟨by omega, ?_⟩
      have h1 := part_flat (P := P) w n f.type xs acc hB (by omega)
      have h2 := part_flat (P := P) w n f.type ys acc hB (by omega)
      have h3 := ih f.type (seg xs acc (P.cellsOf f.type)) (seg ys acc (P.cellsOf f.type)) w hB (seg_len (by omega)) (seg_len (by omega))
      have hd : decide (seg xs acc (e - acc) = seg ys acc (e - acc)) = (decide (seg xs acc (P.cellsOf f.type) = seg ys acc (P.cellsOf f.type)) && decide (seg xs (acc + P.cellsOf f.type) (e - (acc + P.cellsOf f.type)) = seg ys (acc + P.cellsOf f.type) (e - (acc + P.cellsOf f.type)))) := by
        rw [← decide_and, hse]
        exact decide_eq_decide.2 (seg_eq_add (by omega) (by omega))
      rw [hd]
      simp only [Op.eqFields, ho, ne_eq, hn, not_false_eq_true, if_true, Sem.run_bind, h1, h2, h3, Result.andThen_ok]
      cases decide (seg xs acc (P.cellsOf f.type) = seg ys acc (P.cellsOf f.type))
      · simp
      · simpa using hr
    · cases h

theorem eqIn_flat : ∀ (n d : Nat) (t : TypeId) (xs ys : List Int) (w : World), flatE P n t = true → xs.length = P.cellsOf t → ys.length = P.cellsOf t →
    (Op.equalIn (d + n) t (valOf P t xs) (valOf P t ys)).run P w = .ok (decide (xs = ys)) w
  | 0, _, _, _, _, _, h, _, _ => by simp [flatE] at h
  | n + 1, d, t, xs, ys, w, hB, hx, hy => by
    have ih := eqIn_flat n d
    unfold flatE at hB
    split at hB
    · rename_i hu
      have hc : P.cellsOf t = 1 := by simpa using hB
      rw [hc] at hx hy
      match xs, hx, ys, hy with
      | [x], _, [y], _ =>
        have hv : ∀ z, valOf P t [z] = .int .i64 z := fun z => by simp [valOf, hu]
        rw [hv, hv, ← Nat.add_assoc, run_equalIn_int w _ t .i64 .i64 x y hu]
        congr 1
        rw [Bool.eq_iff_iff]
        simp
    · rename_i fs hu
      simp only [Bool.and_eq_true, Bool.not_eq_true', decide_eq_true_eq] at hB
      obtain ⟨⟨h1, _⟩, h2⟩ := hB
      have hf : P.fieldsOf t = fs := by simp [Program.fieldsOf, hu]
      have hv : ∀ z, valOf P t z = .agg (ints z) := fun z => by simp [valOf, hu]
      rw [hv, hv, ← Nat.add_assoc, run_equalIn_struct w (d + n) t (ints xs) (ints ys) (by rw [hf]; exact hu) h1, hf]
      obtain ⟨_, hr⟩ := eqFields_flat n d xs ys (fun t' xs' ys' w' => ih t' xs' ys' w') fs.toList 0 _ w h2 (by omega) (by omega)
      rw [hr, Nat.sub_zero]
      congr 1
      rw [← hx, seg_all, hx, ← hy, seg_all]
    · rename_i m e hu
      simp only [Bool.and_eq_true, decide_eq_true_eq] at hB
      obtain ⟨⟨⟨hi, _⟩, hB⟩, hc⟩ := hB
      obtain ⟨i, hq⟩ := Option.isSome_iff_exists.1 hi
      have hie : P.cellsOf e = i.size := by simp [Program.cellsOf, hq]
      have hv : ∀ z, valOf P t z = .agg (ints z) := fun z => by simp [valOf, hu]
      rw [hv, hv, ← Nat.add_assoc]
      simp only [Op.equalIn, Sem.run_bind, run_underlying hu, Result.andThen_ok, sizeOf, typeInfo, run_program, hq, Sem.run_pure]
      simp only [Std.Legacy.Range.forIn_eq_forIn_range', Std.Legacy.Range.size, Nat.sub_zero, Nat.add_one_sub_one, Nat.div_one]
      have key : ∀ (k a : Nat), a + k ≤ m → (Sem.run P (forIn (List.range' a k 1) ((none, ()) : Option Bool × Unit) fun i_1 __s => do
            let __do_lift ← part e (ints xs) (i_1 * i.size)
            let __do_lift_1 ← part e (ints ys) (i_1 * i.size)
            let __do_lift ← Op.equalIn (d + n) e __do_lift __do_lift_1
            if (!__do_lift) = true then pure (ForInStep.done (some false, ())) else pure (ForInStep.yield (none, ()))) w) =
          .ok (if seg xs (a * i.size) (k * i.size) = seg ys (a * i.size) (k * i.size) then (none, ()) else (some false, ())) w := by
        intro k
        induction k with
        | zero => intro a _; simp [seg]
        | succ k ihk =>
          intro a ha
          have hb1 : a * i.size + i.size ≤ m * i.size := by rw [← Nat.succ_mul]; exact Nat.mul_le_mul_right _ (by omega)
          have h1 := part_flat (P := P) w n e xs (a * i.size) hB (by rw [hx, hc, hie]; exact hb1)
          have h2 := part_flat (P := P) w n e ys (a * i.size) hB (by rw [hy, hc, hie]; exact hb1)
          have h3 := ih e (seg xs (a * i.size) (P.cellsOf e)) (seg ys (a * i.size) (P.cellsOf e)) w hB (seg_len (by rw [hx, hc, hie]; exact hb1)) (seg_len (by rw [hy, hc, hie]; exact hb1))
          have hsplit := seg_eq_add (xs := xs) (ys := ys) (a := a * i.size) (n := i.size) (m := k * i.size) (by rw [hx, hc, hie]; exact hb1) (by rw [hy, hc, hie]; exact hb1)
          rw [hie] at h1 h2 h3
          have hmul : (k + 1) * i.size = i.size + k * i.size := by rw [Nat.succ_mul, Nat.add_comm]
          have hadd : (a + 1) * i.size = a * i.size + i.size := Nat.succ_mul _ _
          rw [List.range'_succ, List.forIn_cons, hmul]
          simp only [Sem.run_bind, h1, h2, h3, Result.andThen_ok]
          by_cases hq' : seg xs (a * i.size) i.size = seg ys (a * i.size) i.size
          · have hkk := ihk (a + 1) (by omega)
            rw [hadd] at hkk
            simp only [hq', decide_true, Bool.not_true, Bool.false_eq_true, if_false, Sem.run_pure, Result.andThen_ok, hkk]
            congr 1
            by_cases hr : seg xs (a * i.size + i.size) (k * i.size) = seg ys (a * i.size + i.size) (k * i.size)
            · rw [if_pos hr, if_pos (hsplit.2 ⟨hq', hr⟩)]
            · rw [if_neg hr, if_neg (fun h => hr (hsplit.1 h).2)]
          · rw [if_neg (fun h => hq' (hsplit.1 h).1)]
            simp [hq']
      rw [key m 0 (by omega), Nat.zero_mul]
      have hxm : m * i.size = xs.length := by rw [hx, hc, hie]
      have hym : m * i.size = ys.length := by rw [hy, hc, hie]
      have hsx : seg xs 0 (m * i.size) = xs := by rw [hxm, seg_all]
      have hsy : seg ys 0 (m * i.size) = ys := by rw [hym, seg_all]
      rw [hsx, hsy]
      by_cases he : xs = ys
      · simp [he]
      · simp [he]
    · cases hB

theorem run_eql_flat (n : Nat) (t : TypeId) (xs ys : List Int) (w : World) (hn : n ≤ 10000) (hB : flatE P n t = true) (ha : valOf P t [] = .agg (ints [])) (hx : xs.length = P.cellsOf t) (hy : ys.length = P.cellsOf t) :
    (binOp .eql t (.agg (ints xs)) (.agg (ints ys))).run P w = .ok (.bool (decide (xs = ys))) w := by
  have hv : ∀ z, valOf P t z = .agg (ints z) := by
    intro z; unfold valOf at ha ⊢; split at ha
    · cases ha
    · rfl
  have h := eqIn_flat (P := P) n (10000 - n) t xs ys w hB hx hy
  rw [hv, hv, show 10000 - n + n = 10000 from by omega] at h
  rw [run_eql_struct, h]
  rfl
theorem run_neq_flat (n : Nat) (t : TypeId) (xs ys : List Int) (w : World) (hn : n ≤ 10000) (hB : flatE P n t = true) (ha : valOf P t [] = .agg (ints [])) (hx : xs.length = P.cellsOf t) (hy : ys.length = P.cellsOf t) :
    (binOp .neq t (.agg (ints xs)) (.agg (ints ys))).run P w = .ok (.bool (!decide (xs = ys))) w := by
  have hv : ∀ z, valOf P t z = .agg (ints z) := by
    intro z; unfold valOf at ha ⊢; split at ha
    · cases ha
    · rfl
  have h := eqIn_flat (P := P) n (10000 - n) t xs ys w hB hx hy
  rw [hv, hv, show 10000 - n + n = 10000 from by omega] at h
  rw [run_neq_struct, h]
  rfl
end

end Go.Proofs.YtpgcghnlepnoiaaGreatDoor

/-
  The program's structs whose cells are ints: load, store and comparison, as rules of the walk (printed by wip/gen_structs.py).
-/
namespace Go.Proofs.YtpgcghnlepnoiaaGreatDoor
open Go.RowKit

theorem vals_info : (Tryz.prog.info? 47).map (·.size) = some 8 := by kernel_rfl
theorem vals_cells : Tryz.prog.cellsOf 47 = 8 := by kernel_rfl
@[go_sem ↓] theorem loadAt_vals (v : Value) : Instr.loadAt 47 v = rowLoad 47 v := rfl
@[go_sem ↓] theorem storeAt_vals (p v : Value) : Instr.storeAt 47 p v = rowStore 47 p v := rfl
@[go_sem] theorem run_load_vals (w : World) (g o : Nat) : (rowLoad 47 (.pointer (some ⟨g, o, none⟩))).run Tryz.prog w = match row? w g o 8 with | some cs => .ok (.agg cs) w | none => (slowLoad 47 ⟨g, o, none⟩).run Tryz.prog w :=
  run_rowLoad w _ g o 8 _ Tryz.underlying47 rfl vals_info
@[go_sem] theorem run_store_vals (w : World) (g o : Nat) (xs : List Int) : (rowStore 47 (.pointer (some ⟨g, o, none⟩)) (.agg (ints xs))).run Tryz.prog w =
    if fits w g o 8 = true ∧ xs.length = 8 then .ok () (putRow w g o xs) else (slowStore 47 g o (.agg (ints xs))).run Tryz.prog w := run_rowStore w _ g o 8 xs vals_info
@[go_sem] theorem run_store_vals_lit (w : World) (g o : Nat) (a0 a1 a2 a3 a4 a5 a6 a7 : Int) : (rowStore 47 (.pointer (some ⟨g, o, none⟩)) (.agg #[.int .i64 a0, .int .i64 a1, .int .i64 a2, .int .i64 a3, .int .i64 a4, .int .i64 a5, .int .i64 a6, .int .i64 a7])).run Tryz.prog w =
    if fits w g o 8 = true then .ok () (putRow w g o [a0, a1, a2, a3, a4, a5, a6, a7]) else (slowStore 47 g o (.agg (ints [a0, a1, a2, a3, a4, a5, a6, a7]))).run Tryz.prog w := by
  have h := run_store_vals w g o [a0, a1, a2, a3, a4, a5, a6, a7]
  simp only [List.length_cons, List.length_nil, Nat.reduceAdd, and_true] at h
  exact h
theorem eql_vals (xs ys : List Int) (hx : xs.length = 8) (hy : ys.length = 8) (w : World) : (binOp .eql 47 (.agg (ints xs)) (.agg (ints ys))).run Tryz.prog w = .ok (.bool (decide (xs = ys))) w :=
  run_eql_flat 5 _ xs ys w (by decide) (by kernel_rfl) (by kernel_rfl) (by rw [vals_cells]; exact hx) (by rw [vals_cells]; exact hy)
theorem neq_vals (xs ys : List Int) (hx : xs.length = 8) (hy : ys.length = 8) (w : World) : (binOp .neq 47 (.agg (ints xs)) (.agg (ints ys))).run Tryz.prog w = .ok (.bool (!decide (xs = ys))) w :=
  run_neq_flat 5 _ xs ys w (by decide) (by kernel_rfl) (by kernel_rfl) (by rw [vals_cells]; exact hx) (by rw [vals_cells]; exact hy)

theorem beast_info : (Tryz.prog.info? 49).map (·.size) = some 9 := by kernel_rfl
theorem beast_cells : Tryz.prog.cellsOf 49 = 9 := by kernel_rfl
@[go_sem ↓] theorem loadAt_beast (v : Value) : Instr.loadAt 49 v = rowLoad 49 v := rfl
@[go_sem ↓] theorem storeAt_beast (p v : Value) : Instr.storeAt 49 p v = rowStore 49 p v := rfl
@[go_sem] theorem run_load_beast (w : World) (g o : Nat) : (rowLoad 49 (.pointer (some ⟨g, o, none⟩))).run Tryz.prog w = match row? w g o 9 with | some cs => .ok (.agg cs) w | none => (slowLoad 49 ⟨g, o, none⟩).run Tryz.prog w :=
  run_rowLoad w _ g o 9 _ Tryz.underlying49 rfl beast_info
@[go_sem] theorem run_store_beast (w : World) (g o : Nat) (xs : List Int) : (rowStore 49 (.pointer (some ⟨g, o, none⟩)) (.agg (ints xs))).run Tryz.prog w =
    if fits w g o 9 = true ∧ xs.length = 9 then .ok () (putRow w g o xs) else (slowStore 49 g o (.agg (ints xs))).run Tryz.prog w := run_rowStore w _ g o 9 xs beast_info
@[go_sem] theorem run_store_beast_lit (w : World) (g o : Nat) (a0 a1 a2 a3 a4 a5 a6 a7 a8 : Int) : (rowStore 49 (.pointer (some ⟨g, o, none⟩)) (.agg #[.int .i64 a0, .int .i64 a1, .int .i64 a2, .int .i64 a3, .int .i64 a4, .int .i64 a5, .int .i64 a6, .int .i64 a7, .int .i64 a8])).run Tryz.prog w =
    if fits w g o 9 = true then .ok () (putRow w g o [a0, a1, a2, a3, a4, a5, a6, a7, a8]) else (slowStore 49 g o (.agg (ints [a0, a1, a2, a3, a4, a5, a6, a7, a8]))).run Tryz.prog w := by
  have h := run_store_beast w g o [a0, a1, a2, a3, a4, a5, a6, a7, a8]
  simp only [List.length_cons, List.length_nil, Nat.reduceAdd, and_true] at h
  exact h
theorem eql_beast (xs ys : List Int) (hx : xs.length = 9) (hy : ys.length = 9) (w : World) : (binOp .eql 49 (.agg (ints xs)) (.agg (ints ys))).run Tryz.prog w = .ok (.bool (decide (xs = ys))) w :=
  run_eql_flat 5 _ xs ys w (by decide) (by kernel_rfl) (by kernel_rfl) (by rw [beast_cells]; exact hx) (by rw [beast_cells]; exact hy)
theorem neq_beast (xs ys : List Int) (hx : xs.length = 9) (hy : ys.length = 9) (w : World) : (binOp .neq 49 (.agg (ints xs)) (.agg (ints ys))).run Tryz.prog w = .ok (.bool (!decide (xs = ys))) w :=
  run_neq_flat 5 _ xs ys w (by decide) (by kernel_rfl) (by kernel_rfl) (by rw [beast_cells]; exact hx) (by rw [beast_cells]; exact hy)

theorem query_info : (Tryz.prog.info? 93).map (·.size) = some 3 := by kernel_rfl
theorem query_cells : Tryz.prog.cellsOf 93 = 3 := by kernel_rfl
@[go_sem ↓] theorem loadAt_query (v : Value) : Instr.loadAt 93 v = rowLoad 93 v := rfl
@[go_sem ↓] theorem storeAt_query (p v : Value) : Instr.storeAt 93 p v = rowStore 93 p v := rfl
@[go_sem] theorem run_load_query (w : World) (g o : Nat) : (rowLoad 93 (.pointer (some ⟨g, o, none⟩))).run Tryz.prog w = match row? w g o 3 with | some cs => .ok (.agg cs) w | none => (slowLoad 93 ⟨g, o, none⟩).run Tryz.prog w :=
  run_rowLoad w _ g o 3 _ Tryz.underlying93 rfl query_info
@[go_sem] theorem run_store_query (w : World) (g o : Nat) (xs : List Int) : (rowStore 93 (.pointer (some ⟨g, o, none⟩)) (.agg (ints xs))).run Tryz.prog w =
    if fits w g o 3 = true ∧ xs.length = 3 then .ok () (putRow w g o xs) else (slowStore 93 g o (.agg (ints xs))).run Tryz.prog w := run_rowStore w _ g o 3 xs query_info
@[go_sem] theorem run_store_query_lit (w : World) (g o : Nat) (a0 a1 a2 : Int) : (rowStore 93 (.pointer (some ⟨g, o, none⟩)) (.agg #[.int .i64 a0, .int .i64 a1, .int .i64 a2])).run Tryz.prog w =
    if fits w g o 3 = true then .ok () (putRow w g o [a0, a1, a2]) else (slowStore 93 g o (.agg (ints [a0, a1, a2]))).run Tryz.prog w := by
  have h := run_store_query w g o [a0, a1, a2]
  simp only [List.length_cons, List.length_nil, Nat.reduceAdd, and_true] at h
  exact h
theorem eql_query (xs ys : List Int) (hx : xs.length = 3) (hy : ys.length = 3) (w : World) : (binOp .eql 93 (.agg (ints xs)) (.agg (ints ys))).run Tryz.prog w = .ok (.bool (decide (xs = ys))) w :=
  run_eql_flat 5 _ xs ys w (by decide) (by kernel_rfl) (by kernel_rfl) (by rw [query_cells]; exact hx) (by rw [query_cells]; exact hy)
theorem neq_query (xs ys : List Int) (hx : xs.length = 3) (hy : ys.length = 3) (w : World) : (binOp .neq 93 (.agg (ints xs)) (.agg (ints ys))).run Tryz.prog w = .ok (.bool (!decide (xs = ys))) w :=
  run_neq_flat 5 _ xs ys w (by decide) (by kernel_rfl) (by kernel_rfl) (by rw [query_cells]; exact hx) (by rw [query_cells]; exact hy)


theorem handle_info : (Tryz.prog.info? 46).map (·.size) = some 2 := by kernel_rfl
theorem handle_cells : Tryz.prog.cellsOf 46 = 2 := by kernel_rfl
@[go_sem ↓] theorem loadAt_handle (v : Value) : Instr.loadAt 46 v = rowLoad 46 v := rfl
@[go_sem ↓] theorem storeAt_handle (p v : Value) : Instr.storeAt 46 p v = rowStore 46 p v := rfl
@[go_sem] theorem run_load_handle (w : World) (g o : Nat) : (rowLoad 46 (.pointer (some ⟨g, o, none⟩))).run Tryz.prog w = match row? w g o 2 with | some cs => .ok (.agg cs) w | none => (slowLoad 46 ⟨g, o, none⟩).run Tryz.prog w :=
  run_rowLoad w _ g o 2 _ Tryz.underlying46 rfl handle_info
@[go_sem] theorem run_store_handle (w : World) (g o : Nat) (xs : List Int) : (rowStore 46 (.pointer (some ⟨g, o, none⟩)) (.agg (ints xs))).run Tryz.prog w =
    if fits w g o 2 = true ∧ xs.length = 2 then .ok () (putRow w g o xs) else (slowStore 46 g o (.agg (ints xs))).run Tryz.prog w := run_rowStore w _ g o 2 xs handle_info
@[go_sem] theorem run_store_handle_lit (w : World) (g o : Nat) (a0 a1 : Int) : (rowStore 46 (.pointer (some ⟨g, o, none⟩)) (.agg #[.int .i64 a0, .int .i64 a1])).run Tryz.prog w =
    if fits w g o 2 = true then .ok () (putRow w g o [a0, a1]) else (slowStore 46 g o (.agg (ints [a0, a1]))).run Tryz.prog w := by
  have h := run_store_handle w g o [a0, a1]
  simp only [List.length_cons, List.length_nil, Nat.reduceAdd, and_true] at h
  exact h
theorem eql_handle (xs ys : List Int) (hx : xs.length = 2) (hy : ys.length = 2) (w : World) : (binOp .eql 46 (.agg (ints xs)) (.agg (ints ys))).run Tryz.prog w = .ok (.bool (decide (xs = ys))) w :=
  run_eql_flat 5 _ xs ys w (by decide) (by kernel_rfl) (by kernel_rfl) (by rw [handle_cells]; exact hx) (by rw [handle_cells]; exact hy)
theorem neq_handle (xs ys : List Int) (hx : xs.length = 2) (hy : ys.length = 2) (w : World) : (binOp .neq 46 (.agg (ints xs)) (.agg (ints ys))).run Tryz.prog w = .ok (.bool (!decide (xs = ys))) w :=
  run_neq_flat 5 _ xs ys w (by decide) (by kernel_rfl) (by kernel_rfl) (by rw [handle_cells]; exact hx) (by rw [handle_cells]; exact hy)

theorem row_info : (Tryz.prog.info? 51).map (·.size) = some 11 := by kernel_rfl
theorem row_cells : Tryz.prog.cellsOf 51 = 11 := by kernel_rfl
@[go_sem ↓] theorem loadAt_row (v : Value) : Instr.loadAt 51 v = rowLoad 51 v := rfl
@[go_sem ↓] theorem storeAt_row (p v : Value) : Instr.storeAt 51 p v = rowStore 51 p v := rfl
@[go_sem] theorem run_load_row (w : World) (g o : Nat) : (rowLoad 51 (.pointer (some ⟨g, o, none⟩))).run Tryz.prog w = match row? w g o 11 with | some cs => .ok (.agg cs) w | none => (slowLoad 51 ⟨g, o, none⟩).run Tryz.prog w :=
  run_rowLoad w _ g o 11 _ Tryz.underlying51 rfl row_info
@[go_sem] theorem run_store_row (w : World) (g o : Nat) (xs : List Int) : (rowStore 51 (.pointer (some ⟨g, o, none⟩)) (.agg (ints xs))).run Tryz.prog w =
    if fits w g o 11 = true ∧ xs.length = 11 then .ok () (putRow w g o xs) else (slowStore 51 g o (.agg (ints xs))).run Tryz.prog w := run_rowStore w _ g o 11 xs row_info
@[go_sem] theorem run_store_row_lit (w : World) (g o : Nat) (a0 a1 a2 a3 a4 a5 a6 a7 a8 a9 a10 : Int) : (rowStore 51 (.pointer (some ⟨g, o, none⟩)) (.agg #[.int .i64 a0, .int .i64 a1, .int .i64 a2, .int .i64 a3, .int .i64 a4, .int .i64 a5, .int .i64 a6, .int .i64 a7, .int .i64 a8, .int .i64 a9, .int .i64 a10])).run Tryz.prog w =
    if fits w g o 11 = true then .ok () (putRow w g o [a0, a1, a2, a3, a4, a5, a6, a7, a8, a9, a10]) else (slowStore 51 g o (.agg (ints [a0, a1, a2, a3, a4, a5, a6, a7, a8, a9, a10]))).run Tryz.prog w := by
  have h := run_store_row w g o [a0, a1, a2, a3, a4, a5, a6, a7, a8, a9, a10]
  simp only [List.length_cons, List.length_nil, Nat.reduceAdd, and_true] at h
  exact h
theorem eql_row (xs ys : List Int) (hx : xs.length = 11) (hy : ys.length = 11) (w : World) : (binOp .eql 51 (.agg (ints xs)) (.agg (ints ys))).run Tryz.prog w = .ok (.bool (decide (xs = ys))) w :=
  run_eql_flat 5 _ xs ys w (by decide) (by kernel_rfl) (by kernel_rfl) (by rw [row_cells]; exact hx) (by rw [row_cells]; exact hy)
theorem neq_row (xs ys : List Int) (hx : xs.length = 11) (hy : ys.length = 11) (w : World) : (binOp .neq 51 (.agg (ints xs)) (.agg (ints ys))).run Tryz.prog w = .ok (.bool (!decide (xs = ys))) w :=
  run_neq_flat 5 _ xs ys w (by decide) (by kernel_rfl) (by kernel_rfl) (by rw [row_cells]; exact hx) (by rw [row_cells]; exact hy)

theorem bond_info : (Tryz.prog.info? 56).map (·.size) = some 4 := by kernel_rfl
theorem bond_cells : Tryz.prog.cellsOf 56 = 4 := by kernel_rfl
@[go_sem ↓] theorem loadAt_bond (v : Value) : Instr.loadAt 56 v = rowLoad 56 v := rfl
@[go_sem ↓] theorem storeAt_bond (p v : Value) : Instr.storeAt 56 p v = rowStore 56 p v := rfl
@[go_sem] theorem run_load_bond (w : World) (g o : Nat) : (rowLoad 56 (.pointer (some ⟨g, o, none⟩))).run Tryz.prog w = match row? w g o 4 with | some cs => .ok (.agg cs) w | none => (slowLoad 56 ⟨g, o, none⟩).run Tryz.prog w :=
  run_rowLoad w _ g o 4 _ Tryz.underlying56 rfl bond_info
@[go_sem] theorem run_store_bond (w : World) (g o : Nat) (xs : List Int) : (rowStore 56 (.pointer (some ⟨g, o, none⟩)) (.agg (ints xs))).run Tryz.prog w =
    if fits w g o 4 = true ∧ xs.length = 4 then .ok () (putRow w g o xs) else (slowStore 56 g o (.agg (ints xs))).run Tryz.prog w := run_rowStore w _ g o 4 xs bond_info
@[go_sem] theorem run_store_bond_lit (w : World) (g o : Nat) (a0 a1 a2 a3 : Int) : (rowStore 56 (.pointer (some ⟨g, o, none⟩)) (.agg #[.int .i64 a0, .int .i64 a1, .int .i64 a2, .int .i64 a3])).run Tryz.prog w =
    if fits w g o 4 = true then .ok () (putRow w g o [a0, a1, a2, a3]) else (slowStore 56 g o (.agg (ints [a0, a1, a2, a3]))).run Tryz.prog w := by
  have h := run_store_bond w g o [a0, a1, a2, a3]
  simp only [List.length_cons, List.length_nil, Nat.reduceAdd, and_true] at h
  exact h
theorem eql_bond (xs ys : List Int) (hx : xs.length = 4) (hy : ys.length = 4) (w : World) : (binOp .eql 56 (.agg (ints xs)) (.agg (ints ys))).run Tryz.prog w = .ok (.bool (decide (xs = ys))) w :=
  run_eql_flat 5 _ xs ys w (by decide) (by kernel_rfl) (by kernel_rfl) (by rw [bond_cells]; exact hx) (by rw [bond_cells]; exact hy)
theorem neq_bond (xs ys : List Int) (hx : xs.length = 4) (hy : ys.length = 4) (w : World) : (binOp .neq 56 (.agg (ints xs)) (.agg (ints ys))).run Tryz.prog w = .ok (.bool (!decide (xs = ys))) w :=
  run_neq_flat 5 _ xs ys w (by decide) (by kernel_rfl) (by kernel_rfl) (by rw [bond_cells]; exact hx) (by rw [bond_cells]; exact hy)


theorem op_info : (Tryz.prog.info? 81).map (·.size) = some 16 := by kernel_rfl
theorem op_cells : Tryz.prog.cellsOf 81 = 16 := by kernel_rfl
@[go_sem ↓] theorem loadAt_op (v : Value) : Instr.loadAt 81 v = rowLoad 81 v := rfl
@[go_sem ↓] theorem storeAt_op (p v : Value) : Instr.storeAt 81 p v = rowStore 81 p v := rfl
@[go_sem] theorem run_load_op (w : World) (g o : Nat) : (rowLoad 81 (.pointer (some ⟨g, o, none⟩))).run Tryz.prog w = match row? w g o 16 with | some cs => .ok (.agg cs) w | none => (slowLoad 81 ⟨g, o, none⟩).run Tryz.prog w :=
  run_rowLoad w _ g o 16 _ Tryz.underlying81 rfl op_info
@[go_sem] theorem run_store_op (w : World) (g o : Nat) (xs : List Int) : (rowStore 81 (.pointer (some ⟨g, o, none⟩)) (.agg (ints xs))).run Tryz.prog w =
    if fits w g o 16 = true ∧ xs.length = 16 then .ok () (putRow w g o xs) else (slowStore 81 g o (.agg (ints xs))).run Tryz.prog w := run_rowStore w _ g o 16 xs op_info
@[go_sem] theorem run_store_op_lit (w : World) (g o : Nat) (a0 a1 a2 a3 a4 a5 a6 a7 a8 a9 a10 a11 a12 a13 a14 a15 : Int) : (rowStore 81 (.pointer (some ⟨g, o, none⟩)) (.agg #[.int .i64 a0, .int .i64 a1, .int .i64 a2, .int .i64 a3, .int .i64 a4, .int .i64 a5, .int .i64 a6, .int .i64 a7, .int .i64 a8, .int .i64 a9, .int .i64 a10, .int .i64 a11, .int .i64 a12, .int .i64 a13, .int .i64 a14, .int .i64 a15])).run Tryz.prog w =
    if fits w g o 16 = true then .ok () (putRow w g o [a0, a1, a2, a3, a4, a5, a6, a7, a8, a9, a10, a11, a12, a13, a14, a15]) else (slowStore 81 g o (.agg (ints [a0, a1, a2, a3, a4, a5, a6, a7, a8, a9, a10, a11, a12, a13, a14, a15]))).run Tryz.prog w := by
  have h := run_store_op w g o [a0, a1, a2, a3, a4, a5, a6, a7, a8, a9, a10, a11, a12, a13, a14, a15]
  simp only [List.length_cons, List.length_nil, Nat.reduceAdd, and_true] at h
  exact h
theorem eql_op (xs ys : List Int) (hx : xs.length = 16) (hy : ys.length = 16) (w : World) : (binOp .eql 81 (.agg (ints xs)) (.agg (ints ys))).run Tryz.prog w = .ok (.bool (decide (xs = ys))) w :=
  run_eql_flat 5 _ xs ys w (by decide) (by kernel_rfl) (by kernel_rfl) (by rw [op_cells]; exact hx) (by rw [op_cells]; exact hy)
theorem neq_op (xs ys : List Int) (hx : xs.length = 16) (hy : ys.length = 16) (w : World) : (binOp .neq 81 (.agg (ints xs)) (.agg (ints ys))).run Tryz.prog w = .ok (.bool (!decide (xs = ys))) w :=
  run_neq_flat 5 _ xs ys w (by decide) (by kernel_rfl) (by kernel_rfl) (by rw [op_cells]; exact hx) (by rw [op_cells]; exact hy)

theorem place_info : (Tryz.prog.info? 172).map (·.size) = some 2 := by kernel_rfl
theorem place_cells : Tryz.prog.cellsOf 172 = 2 := by kernel_rfl
@[go_sem ↓] theorem loadAt_place (v : Value) : Instr.loadAt 172 v = rowLoad 172 v := rfl
@[go_sem ↓] theorem storeAt_place (p v : Value) : Instr.storeAt 172 p v = rowStore 172 p v := rfl
@[go_sem] theorem run_load_place (w : World) (g o : Nat) : (rowLoad 172 (.pointer (some ⟨g, o, none⟩))).run Tryz.prog w = match row? w g o 2 with | some cs => .ok (.agg cs) w | none => (slowLoad 172 ⟨g, o, none⟩).run Tryz.prog w :=
  run_rowLoad w _ g o 2 _ Tryz.underlying172 rfl place_info
@[go_sem] theorem run_store_place (w : World) (g o : Nat) (xs : List Int) : (rowStore 172 (.pointer (some ⟨g, o, none⟩)) (.agg (ints xs))).run Tryz.prog w =
    if fits w g o 2 = true ∧ xs.length = 2 then .ok () (putRow w g o xs) else (slowStore 172 g o (.agg (ints xs))).run Tryz.prog w := run_rowStore w _ g o 2 xs place_info
@[go_sem] theorem run_store_place_lit (w : World) (g o : Nat) (a0 a1 : Int) : (rowStore 172 (.pointer (some ⟨g, o, none⟩)) (.agg #[.int .i64 a0, .int .i64 a1])).run Tryz.prog w =
    if fits w g o 2 = true then .ok () (putRow w g o [a0, a1]) else (slowStore 172 g o (.agg (ints [a0, a1]))).run Tryz.prog w := by
  have h := run_store_place w g o [a0, a1]
  simp only [List.length_cons, List.length_nil, Nat.reduceAdd, and_true] at h
  exact h
theorem eql_place (xs ys : List Int) (hx : xs.length = 2) (hy : ys.length = 2) (w : World) : (binOp .eql 172 (.agg (ints xs)) (.agg (ints ys))).run Tryz.prog w = .ok (.bool (decide (xs = ys))) w :=
  run_eql_flat 5 _ xs ys w (by decide) (by kernel_rfl) (by kernel_rfl) (by rw [place_cells]; exact hx) (by rw [place_cells]; exact hy)
theorem neq_place (xs ys : List Int) (hx : xs.length = 2) (hy : ys.length = 2) (w : World) : (binOp .neq 172 (.agg (ints xs)) (.agg (ints ys))).run Tryz.prog w = .ok (.bool (!decide (xs = ys))) w :=
  run_neq_flat 5 _ xs ys w (by decide) (by kernel_rfl) (by kernel_rfl) (by rw [place_cells]; exact hx) (by rw [place_cells]; exact hy)

theorem index_vals (xs : List Int) (k : Nat) (hk : k < 8) (hx : xs.length = 8) (w : World) : (Instr.index 47 (.agg (ints xs)) (.int .i64 (k : Int))).run Tryz.prog w = .ok (.int .i64 (xs.getD k 0)) w := by
  have h : (ints xs)[k]? = some (.int .i64 (xs.getD k 0)) := by rw [ints_at (by omega)]; simp [List.getD, List.getElem?_eq_getElem (show k < xs.length by omega)]
  have hs : (sizeOf 3).run Tryz.prog w = .ok 1 w := by kernel_rfl
  have hp : (part 3 (ints xs) k).run Tryz.prog w = .ok (.int .i64 (xs.getD k 0)) w := by
    have ha : (isAgg 3).run Tryz.prog w = .ok false w := by kernel_rfl
    simp [part, Sem.run_bind, ha, h]
  unfold Instr.index
  simp only [asIntOf, Sem.run_bind, Sem.run_pure, Result.andThen_ok, run_underlying Tryz.underlying47]
  rw [if_pos (by omega)]
  simp only [Sem.run_bind, hs, Result.andThen_ok, Int.toNat_natCast, Nat.mul_one, hp]

end Go.Proofs.YtpgcghnlepnoiaaGreatDoor

/-
  Slices of one struct, and structs out of structs, where the parts are not written out: as rules of the walk.
-/
namespace Go.Proofs.YtpgcghnlepnoiaaGreatDoor
open Go.RowKit

theorem foldSet : ∀ (cs : List Value) (off j : Nat) (base : Array Value), off + j + cs.length ≤ base.size →
    ((cs.zipIdx j).foldl (fun (acc : Array Value) (x : Value × Nat) => acc.setIfInBounds (off + x.2) x.1) base).toList = base.toList.take (off + j) ++ cs ++ base.toList.drop (off + j + cs.length)
  | [], off, j, base, _ => by simp
  | c :: cs, off, j, base, h => by
    rw [List.zipIdx_cons, List.foldl_cons]
    rw [List.length_cons] at h
    rw [foldSet cs off (j + 1) _ (by simp; omega)]
    simp only [Array.toList_setIfInBounds]
    have hl : (base.toList.take (off + j)).length = off + j := by rw [List.length_take]; simp; omega
    have hd : base.toList = base.toList.take (off + j) ++ base.toList[off + j]'(by simp; omega) :: base.toList.drop (off + j + 1) := by rw [← List.drop_eq_getElem_cons, List.take_append_drop]
    have e1 : (base.toList.set (off + j) c) = base.toList.take (off + j) ++ c :: base.toList.drop (off + j + 1) := by
      conv => lhs; rw [hd]
      rw [List.set_append_right _ _ (by omega), hl, Nat.sub_self, List.set_cons_zero]
    rw [e1]
    have e2 : (base.toList.take (off + j) ++ c :: base.toList.drop (off + j + 1)).take (off + (j + 1)) = base.toList.take (off + j) ++ [c] := by
      rw [List.take_append, hl, List.take_of_length_le (by omega), show off + (j + 1) - (off + j) = 1 from by omega]; rfl
    have e3 : (base.toList.take (off + j) ++ c :: base.toList.drop (off + j + 1)).drop (off + (j + 1) + cs.length) = base.toList.drop (off + j + (cs.length + 1)) := by
      rw [List.drop_append, hl, List.drop_of_length_le (by omega), List.nil_append, show off + (j + 1) + cs.length - (off + j) = cs.length + 1 from by omega, List.drop_succ_cons, List.drop_drop]
      congr 1; omega
    rw [e2, e3, List.length_cons, List.append_assoc, List.append_assoc, List.append_assoc]
    rfl
theorem foldArr (cs base : Array Value) (off : Nat) (h : off + cs.size ≤ base.size) :
    (cs.zipIdx.foldl (fun acc (c, j) => acc.setIfInBounds (off + j) c) base) = (base.toList.take off ++ cs.toList ++ base.toList.drop (off + cs.size)).toArray := by
  apply Array.ext'
  rw [← Array.foldl_toList, Array.toList_zipIdx]
  have := foldSet cs.toList off 0 base (by simpa using h)
  simpa using this

theorem fill_cons (place : Nat → Option (Nat × Nat)) (z a : Array Value) (i off m : Nat) (rest : List (Nat × Value)) (hp : place i = some (off, m)) (ha : a.size = m) (hz : off + m ≤ z.size) :
    Instr.fill place z ((i, .agg a) :: rest) = Instr.fill place (a.zipIdx.foldl (fun acc (c, j) => acc.setIfInBounds (off + j) c) z) rest := by
  rw [Instr.fill, hp]
  have h1 : (decide ((Value.agg a).cells.size ≠ m) || decide (off + (Value.agg a).cells.size > z.size)) = false := by
    show (decide (a.size ≠ m) || decide (off + a.size > z.size)) = false
    simp; omega
  simp only [h1]
  rfl

/-- a slice of one struct -/
def rowSlice (t : TypeId) (parts : Array (Nat × Value)) : Sem Value := Instr.buildSlice t 1 parts
def slowSlice (t : TypeId) (cs : Array Value) : Sem Value := Instr.buildSlice t 1 #[(0, .agg cs)]
theorem run_rowSlice {P : Program} (w : World) (t e : TypeId) (n : Nat) (z cs : Array Value) (hu : P.underlying t = some (.slice e)) (hs : (sizeOf e).run P w = .ok n w) (hz : (zeroValue e).run P w = .ok (.agg z) w) (hzn : z.size = n) (hn : 0 < n) (hn2 : n ≤ 1000) :
    (rowSlice t #[(0, .agg cs)]).run P w = if cs.size = n then .ok (.slice (some ⟨w.heap.size, 0, none⟩) 1 1) (w.alloc (.cells cs e)) else (slowSlice t cs).run P w := by
  split
  · rename_i hc
    have hb : ((Array.range (1 * n)).map (z[· % z.size]!)).size = n := by simp
    have hf : Instr.fill (fun i => some (i * n, n)) ((Array.range (1 * n)).map (z[· % z.size]!)) [(0, Value.agg cs)] = some cs := by
      rw [fill_cons (fun i => some (i * n, n)) _ cs 0 (0 * n) n [] rfl hc (by rw [hb]; omega), Instr.fill, Nat.zero_mul, foldArr cs _ 0 (by rw [hb]; omega)]
      congr 1
      apply Array.ext'
      simp [hc]
    unfold rowSlice Instr.buildSlice
    have h1 : ¬ (1 * n > 2 ^ 24) := by omega
    have h2 : ¬ (1 * n = 0) := by omega
    simp only [Sem.run_bind, run_underlying hu, Result.andThen_ok, hs, if_neg h1, if_neg h2, hz, Sem.run_pure, Value.cells, List.getElem_toArray]
    have hf' : Instr.fill (fun i => some (i * n, n)) ((Array.range (1 * n)).map (z[· % z.size]!)) #[(0, Value.agg cs)].toList = some cs := hf
    simp only [hf', Sem.run_bind, newRow]
    rfl
  · rfl

@[go_sem ↓] theorem slice_row (parts : Array (Nat × Value)) : Instr.buildSlice 23 1 parts = rowSlice 23 parts := rfl
@[go_sem] theorem run_slice_row (w : World) (cs : Array Value) : (rowSlice 23 #[(0, .agg cs)]).run Tryz.prog w = if cs.size = 11 then .ok (.slice (some ⟨w.heap.size, 0, none⟩) 1 1) (w.alloc (.cells cs 51)) else (slowSlice 23 cs).run Tryz.prog w :=
  run_rowSlice w _ _ 11 (List.replicate 11 (Value.int .i64 0)).toArray cs Tryz.underlying23 (by kernel_rfl) (by kernel_rfl) rfl (by decide) (by decide)
@[go_sem ↓] theorem slice_bond (parts : Array (Nat × Value)) : Instr.buildSlice 24 1 parts = rowSlice 24 parts := rfl
@[go_sem] theorem run_slice_bond (w : World) (cs : Array Value) : (rowSlice 24 #[(0, .agg cs)]).run Tryz.prog w = if cs.size = 4 then .ok (.slice (some ⟨w.heap.size, 0, none⟩) 1 1) (w.alloc (.cells cs 56)) else (slowSlice 24 cs).run Tryz.prog w :=
  run_rowSlice w _ _ 4 (List.replicate 4 (Value.int .i64 0)).toArray cs Tryz.underlying24 (by kernel_rfl) (by kernel_rfl) rfl (by decide) (by decide)
@[go_sem ↓] theorem slice_handle (parts : Array (Nat × Value)) : Instr.buildSlice 119 1 parts = rowSlice 119 parts := rfl
@[go_sem] theorem run_slice_handle (w : World) (cs : Array Value) : (rowSlice 119 #[(0, .agg cs)]).run Tryz.prog w = if cs.size = 2 then .ok (.slice (some ⟨w.heap.size, 0, none⟩) 1 1) (w.alloc (.cells cs 46)) else (slowSlice 119 cs).run Tryz.prog w :=
  run_rowSlice w _ _ 2 (List.replicate 2 (Value.int .i64 0)).toArray cs Tryz.underlying119 (by kernel_rfl) (by kernel_rfl) rfl (by decide) (by decide)

/-- cells one behind the other -/
@[go_sem] theorem ints_append (xs ys : List Int) : ints xs ++ ints ys = ints (xs ++ ys) := by unfold ints; simp
theorem join2 (z a c : Array Value) (m n : Nat) (hz : z.size = m + n) (ha : a.size = m) (hc : c.size = n) (place : Nat → Option (Nat × Nat)) (h0 : place 0 = some (0, m)) (h1 : place 1 = some (m, n)) :
    Instr.fill place z [(0, .agg a), (1, .agg c)] = some (a ++ c) := by
  rw [fill_cons place z a 0 0 m _ h0 ha (by omega)]
  have hs : (a.zipIdx.foldl (fun acc (c, j) => acc.setIfInBounds (0 + j) c) z).size = m + n := by rw [foldArr a z 0 (by omega)]; simp; omega
  rw [fill_cons place _ c 1 m n _ h1 hc (by rw [hs]; omega), Instr.fill, foldArr c _ m (by rw [hs]; omega), foldArr a z 0 (by omega)]
  congr 1
  apply Array.ext'
  simp only [List.take_zero, List.nil_append, Nat.zero_add, Array.toList_append]
  have hal : a.toList.length = m := by simpa using ha
  have hzl : (z.toList.drop a.size).length = n := by rw [List.length_drop]; simp; omega
  rw [List.take_left' hal, List.drop_of_length_le (by rw [List.length_append, hal, hzl]; omega), List.append_nil]
theorem join3 (z a c d : Array Value) (m n q : Nat) (hz : z.size = m + n + q) (ha : a.size = m) (hc : c.size = n) (hd : d.size = q) (place : Nat → Option (Nat × Nat)) (h0 : place 0 = some (0, m)) (h1 : place 1 = some (m, n)) (h2 : place 2 = some (m + n, q)) :
    Instr.fill place z [(0, .agg a), (1, .agg c), (2, .agg d)] = some (a ++ c ++ d) := by
  rw [fill_cons place z a 0 0 m _ h0 ha (by omega)]
  have hs : (a.zipIdx.foldl (fun acc (c, j) => acc.setIfInBounds (0 + j) c) z) = (a.toList ++ z.toList.drop m).toArray := by rw [foldArr a z 0 (by omega)]; simp [ha]
  rw [hs, fill_cons place _ c 1 m n _ h1 hc (by simp; omega)]
  have hs2 : (c.zipIdx.foldl (fun acc (c, j) => acc.setIfInBounds (m + j) c) (a.toList ++ z.toList.drop m).toArray) = (a.toList ++ c.toList ++ z.toList.drop (m + n)).toArray := by
    rw [foldArr c _ m (by simp; omega)]
    have hal : a.toList.length = m := by simpa using ha
    simp only [List.toList_toArray]
    rw [List.take_left' hal, List.drop_append, List.drop_of_length_le (by omega), List.nil_append, hal, List.drop_drop, hc]
    congr 3; omega
  rw [hs2, fill_cons place _ d 2 (m + n) q _ h2 hd (by simp; omega), Instr.fill, foldArr d _ (m + n) (by simp; omega)]
  congr 1
  apply Array.ext'
  have hal : (a.toList ++ c.toList).length = m + n := by simp; omega
  have hzl : (z.toList.drop (m + n)).length = q := by rw [List.length_drop]; simp; omega
  simp only [Array.toList_append, List.toList_toArray]
  rw [List.take_left' hal, List.drop_of_length_le (by rw [List.length_append, hal, hzl]; omega), List.append_nil]

/-- a struct out of its parts -/
def rowBuild (t : TypeId) (parts : Array (Nat × Value)) : Sem Value := Instr.build t parts
def slowBuild (t : TypeId) (parts : Array (Nat × Value)) : Sem Value := Instr.build t parts
theorem run_rowBuild2 {P : Program} (w : World) (t : TypeId) (m n : Nat) (z a c : Array Value) (f1 f2 : Field) (hu : P.underlying t = some (.struct #[f1, f2])) (h1 : (sizeOf f1.type).run P w = .ok m w) (h2 : (sizeOf f2.type).run P w = .ok n w)
    (o1 : f1.offset = 0) (o2 : f2.offset = m) (hz : (zeroValue t).run P w = .ok (.agg z) w) (hzn : z.size = m + n) :
    (rowBuild t #[(0, .agg a), (1, .agg c)]).run P w = if a.size = m ∧ c.size = n then .ok (.agg (a ++ c)) w else (slowBuild t #[(0, .agg a), (1, .agg c)]).run P w := by
  split
  · rename_i h
    unfold rowBuild Instr.build
    simp [Sem.run_bind, hz, run_underlying hu, h1, h2, Value.cells, o1, o2]
    have := join2 z a c m n hzn h.1 h.2 (fun i => [(0, m), (m, n)][i]?) rfl rfl
    rw [this]
    rfl
  · rfl

theorem run_rowBuild3 {P : Program} (w : World) (t : TypeId) (m n q : Nat) (z a c d : Array Value) (f1 f2 f3 : Field) (hu : P.underlying t = some (.struct #[f1, f2, f3])) (h1 : (sizeOf f1.type).run P w = .ok m w) (h2 : (sizeOf f2.type).run P w = .ok n w) (h3 : (sizeOf f3.type).run P w = .ok q w)
    (o1 : f1.offset = 0) (o2 : f2.offset = m) (o3 : f3.offset = m + n) (hz : (zeroValue t).run P w = .ok (.agg z) w) (hzn : z.size = m + n + q) :
    (rowBuild t #[(0, .agg a), (1, .agg c), (2, .agg d)]).run P w = if a.size = m ∧ c.size = n ∧ d.size = q then .ok (.agg (a ++ c ++ d)) w else (slowBuild t #[(0, .agg a), (1, .agg c), (2, .agg d)]).run P w := by
  split
  · rename_i h
    unfold rowBuild Instr.build
    simp [Sem.run_bind, hz, run_underlying hu, h1, h2, h3, Value.cells, o1, o2, o3]
    have := join3 z a c d m n q hzn h.1 h.2.1 h.2.2 (fun i => [(0, m), (m, n), (m + n, q)][i]?) rfl rfl rfl
    rw [this]
    simp
  · rfl

@[go_sem ↓] theorem build_row (parts : Array (Nat × Value)) : Instr.build 51 parts = rowBuild 51 parts := rfl
@[go_sem] theorem run_build0_row (w : World) : (rowBuild 51 #[]).run Tryz.prog w = .ok (.agg (ints [0, 0, 0, 0, 0, 0, 0, 0, 0, 0, 0])) w := by kernel_rfl
@[go_sem] theorem run_build_row (w : World) (a c : Array Value) : (rowBuild 51 #[(0, .agg a), (1, .agg c)]).run Tryz.prog w = if a.size = 2 ∧ c.size = 9 then .ok (.agg (a ++ c)) w else (slowBuild 51 #[(0, .agg a), (1, .agg c)]).run Tryz.prog w :=
  run_rowBuild2 w _ 2 9 (List.replicate 11 (Value.int .i64 0)).toArray a c _ _ Tryz.underlying51 (by kernel_rfl) (by kernel_rfl) rfl rfl (by kernel_rfl) rfl
@[go_sem ↓] theorem build_bond (parts : Array (Nat × Value)) : Instr.build 56 parts = rowBuild 56 parts := rfl
@[go_sem] theorem run_build0_bond (w : World) : (rowBuild 56 #[]).run Tryz.prog w = .ok (.agg (ints [0, 0, 0, 0])) w := by kernel_rfl
@[go_sem] theorem run_build_bond (w : World) (a c : Array Value) : (rowBuild 56 #[(0, .agg a), (1, .agg c)]).run Tryz.prog w = if a.size = 2 ∧ c.size = 2 then .ok (.agg (a ++ c)) w else (slowBuild 56 #[(0, .agg a), (1, .agg c)]).run Tryz.prog w :=
  run_rowBuild2 w _ 2 2 (List.replicate 4 (Value.int .i64 0)).toArray a c _ _ Tryz.underlying56 (by kernel_rfl) (by kernel_rfl) rfl rfl (by kernel_rfl) rfl
@[go_sem] theorem row_drewN (w : World) (k g o n : Nat) : row? (w.drewN k) g o n = row? w g o n := rfl
@[go_sem] theorem fits_drewN (w : World) (k g o n : Nat) : Go.Proofs.YtpgcghnlepnoiaaGreatDoor.fits (w.drewN k) g o n = Go.Proofs.YtpgcghnlepnoiaaGreatDoor.fits w g o n := rfl
/-- two literal cells ahead -/
@[go_sem] theorem pair_append (a b : Int) (xs : List Int) : (#[Value.int .i64 a, .int .i64 b] : Array Value) ++ ints xs = ints (a :: b :: xs) := by
  unfold ints
  apply Array.ext'
  simp

end Go.Proofs.YtpgcghnlepnoiaaGreatDoor
