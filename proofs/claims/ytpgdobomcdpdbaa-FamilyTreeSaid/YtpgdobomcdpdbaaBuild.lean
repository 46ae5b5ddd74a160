/-
  Slices of one struct, and structs out of structs, where the parts are not written out: as rules of the walk.
-/
import Derived.Test.YtpgdobomcdpdbaaStructs
namespace Go.Proofs.Ytpgdobomcdpdbaa
open Go.RowKit

theorem foldSet : ∀ (cs : List Value) (off j : Nat) (base : Array Value), off + j + cs.length ≤ base.size →
    ((cs.zipIdx j).foldl (fun (acc : Array Value) (x : Value × Nat) => acc.setIfInBounds (off + x.2) x.1) base).toList = base.toList.take (off + j) ++ cs ++ base.toList.drop (off + j + cs.length)
  | [], off, j, base, _ => by simp
  | c :: cs, off, j, base, h => by
    rw [List.zipIdx_cons, List.foldl_cons]
    rw [List.length_cons] at h
    rw [foldSet cs off (j + 1) _ (by simp; omega)]
    simp only [Array.toList_setIfInBounds]
    have hl : (base.toList.take (off + j)).length = off + j := by rw [List.length_take]; simp; omega
    have hd : base.toList = base.toList.take (off + j) ++ base.toList[off + j]'(by simp; omega) :: base.toList.drop (off + j + 1) := by rw [← List.drop_eq_getElem_cons, List.take_append_drop]
    have e1 : (base.toList.set (off + j) c) = base.toList.take (off + j) ++ c :: base.toList.drop (off + j + 1) := by
      conv => lhs; rw [hd]
      rw [List.set_append_right _ _ (by omega), hl, Nat.sub_self, List.set_cons_zero]
    rw [e1]
    have e2 : (base.toList.take (off + j) ++ c :: base.toList.drop (off + j + 1)).take (off + (j + 1)) = base.toList.take (off + j) ++ [c] := by
      rw [List.take_append, hl, List.take_of_length_le (by omega), show off + (j + 1) - (off + j) = 1 from by omega]; rfl
    have e3 : (base.toList.take (off + j) ++ c :: base.toList.drop (off + j + 1)).drop (off + (j + 1) + cs.length) = base.toList.drop (off + j + (cs.length + 1)) := by
      rw [List.drop_append, hl, List.drop_of_length_le (by omega), List.nil_append, show off + (j + 1) + cs.length - (off + j) = cs.length + 1 from by omega, List.drop_succ_cons, List.drop_drop]
      congr 1; omega
    rw [e2, e3, List.length_cons, List.append_assoc, List.append_assoc, List.append_assoc]
    rfl
theorem foldArr (cs base : Array Value) (off : Nat) (h : off + cs.size ≤ base.size) :
    (cs.zipIdx.foldl (fun acc (c, j) => acc.setIfInBounds (off + j) c) base) = (base.toList.take off ++ cs.toList ++ base.toList.drop (off + cs.size)).toArray := by
  apply Array.ext'
  rw [← Array.foldl_toList, Array.toList_zipIdx]
  have := foldSet cs.toList off 0 base (by simpa using h)
  simpa using this

theorem fill_cons (place : Nat → Option (Nat × Nat)) (z a : Array Value) (i off m : Nat) (rest : List (Nat × Value)) (hp : place i = some (off, m)) (ha : a.size = m) (hz : off + m ≤ z.size) :
    Instr.fill place z ((i, .agg a) :: rest) = Instr.fill place (a.zipIdx.foldl (fun acc (c, j) => acc.setIfInBounds (off + j) c) z) rest := by
  rw [Instr.fill, hp]
  have h1 : (decide ((Value.agg a).cells.size ≠ m) || decide (off + (Value.agg a).cells.size > z.size)) = false := by
    show (decide (a.size ≠ m) || decide (off + a.size > z.size)) = false
    simp; omega
  simp only [h1]
  rfl

/-- a slice of one struct -/
def rowSlice (t : TypeId) (parts : Array (Nat × Value)) : Sem Value := Instr.buildSlice t 1 parts
def slowSlice (t : TypeId) (cs : Array Value) : Sem Value := Instr.buildSlice t 1 #[(0, .agg cs)]
theorem run_rowSlice {P : Program} (w : World) (t e : TypeId) (n : Nat) (z cs : Array Value) (hu : P.underlying t = some (.slice e)) (hs : (sizeOf e).run P w = .ok n w) (hz : (zeroValue e).run P w = .ok (.agg z) w) (hzn : z.size = n) (hn : 0 < n) (hn2 : n ≤ 1000) :
    (rowSlice t #[(0, .agg cs)]).run P w = if cs.size = n then .ok (.slice (some ⟨w.heap.size, 0, none⟩) 1 1) (w.alloc (.cells cs e)) else (slowSlice t cs).run P w := by
  split
  · rename_i hc
    have hb : ((Array.range (1 * n)).map (z[· % z.size]!)).size = n := by simp
    have hf : Instr.fill (fun i => some (i * n, n)) ((Array.range (1 * n)).map (z[· % z.size]!)) [(0, Value.agg cs)] = some cs := by
      rw [fill_cons (fun i => some (i * n, n)) _ cs 0 (0 * n) n [] rfl hc (by rw [hb]; omega), Instr.fill, Nat.zero_mul, foldArr cs _ 0 (by rw [hb]; omega)]
      congr 1
      apply Array.ext'
      simp [hc]
    unfold rowSlice Instr.buildSlice
    have h1 : ¬ (1 * n > 2 ^ 24) := by omega
    have h2 : ¬ (1 * n = 0) := by omega
    simp only [Sem.run_bind, run_underlying hu, Result.andThen_ok, hs, if_neg h1, if_neg h2, hz, Sem.run_pure, Value.cells, List.getElem_toArray]
    have hf' : Instr.fill (fun i => some (i * n, n)) ((Array.range (1 * n)).map (z[· % z.size]!)) #[(0, Value.agg cs)].toList = some cs := hf
    simp only [hf', Sem.run_bind, newRow]
    rfl
  · rfl

@[go_sem ↓] theorem slice_row (parts : Array (Nat × Value)) : Instr.buildSlice 25 1 parts = rowSlice 25 parts := rfl
@[go_sem] theorem run_slice_row (w : World) (cs : Array Value) : (rowSlice 25 #[(0, .agg cs)]).run Try.prog w = if cs.size = 11 then .ok (.slice (some ⟨w.heap.size, 0, none⟩) 1 1) (w.alloc (.cells cs 41)) else (slowSlice 25 cs).run Try.prog w :=
  run_rowSlice w _ _ 11 (List.replicate 11 (Value.int .i64 0)).toArray cs Try.underlying25 (by kernel_rfl) (by kernel_rfl) rfl (by decide) (by decide)
@[go_sem ↓] theorem slice_bond (parts : Array (Nat × Value)) : Instr.buildSlice 54 1 parts = rowSlice 54 parts := rfl
@[go_sem] theorem run_slice_bond (w : World) (cs : Array Value) : (rowSlice 54 #[(0, .agg cs)]).run Try.prog w = if cs.size = 4 then .ok (.slice (some ⟨w.heap.size, 0, none⟩) 1 1) (w.alloc (.cells cs 59)) else (slowSlice 54 cs).run Try.prog w :=
  run_rowSlice w _ _ 4 (List.replicate 4 (Value.int .i64 0)).toArray cs Try.underlying54 (by kernel_rfl) (by kernel_rfl) rfl (by decide) (by decide)
@[go_sem ↓] theorem slice_change (parts : Array (Nat × Value)) : Instr.buildSlice 67 1 parts = rowSlice 67 parts := rfl
@[go_sem] theorem run_slice_change (w : World) (cs : Array Value) : (rowSlice 67 #[(0, .agg cs)]).run Try.prog w = if cs.size = 20 then .ok (.slice (some ⟨w.heap.size, 0, none⟩) 1 1) (w.alloc (.cells cs 72)) else (slowSlice 67 cs).run Try.prog w :=
  run_rowSlice w _ _ 20 (List.replicate 20 (Value.int .i64 0)).toArray cs Try.underlying67 (by kernel_rfl) (by kernel_rfl) rfl (by decide) (by decide)
@[go_sem ↓] theorem slice_handle (parts : Array (Nat × Value)) : Instr.buildSlice 28 1 parts = rowSlice 28 parts := rfl
@[go_sem] theorem run_slice_handle (w : World) (cs : Array Value) : (rowSlice 28 #[(0, .agg cs)]).run Try.prog w = if cs.size = 2 then .ok (.slice (some ⟨w.heap.size, 0, none⟩) 1 1) (w.alloc (.cells cs 36)) else (slowSlice 28 cs).run Try.prog w :=
  run_rowSlice w _ _ 2 (List.replicate 2 (Value.int .i64 0)).toArray cs Try.underlying28 (by kernel_rfl) (by kernel_rfl) rfl (by decide) (by decide)

/-- cells one behind the other -/
@[go_sem] theorem ints_append (xs ys : List Int) : ints xs ++ ints ys = ints (xs ++ ys) := by unfold ints; simp
theorem join2 (z a c : Array Value) (m n : Nat) (hz : z.size = m + n) (ha : a.size = m) (hc : c.size = n) (place : Nat → Option (Nat × Nat)) (h0 : place 0 = some (0, m)) (h1 : place 1 = some (m, n)) :
    Instr.fill place z [(0, .agg a), (1, .agg c)] = some (a ++ c) := by
  rw [fill_cons place z a 0 0 m _ h0 ha (by omega)]
  have hs : (a.zipIdx.foldl (fun acc (c, j) => acc.setIfInBounds (0 + j) c) z).size = m + n := by rw [foldArr a z 0 (by omega)]; simp; omega
  rw [fill_cons place _ c 1 m n _ h1 hc (by rw [hs]; omega), Instr.fill, foldArr c _ m (by rw [hs]; omega), foldArr a z 0 (by omega)]
  congr 1
  apply Array.ext'
  simp only [List.take_zero, List.nil_append, Nat.zero_add, Array.toList_append]
  have hal : a.toList.length = m := by simpa using ha
  have hzl : (z.toList.drop a.size).length = n := by rw [List.length_drop]; simp; omega
  rw [List.take_left' hal, List.drop_of_length_le (by rw [List.length_append, hal, hzl]; omega), List.append_nil]
theorem join3 (z a c d : Array Value) (m n q : Nat) (hz : z.size = m + n + q) (ha : a.size = m) (hc : c.size = n) (hd : d.size = q) (place : Nat → Option (Nat × Nat)) (h0 : place 0 = some (0, m)) (h1 : place 1 = some (m, n)) (h2 : place 2 = some (m + n, q)) :
    Instr.fill place z [(0, .agg a), (1, .agg c), (2, .agg d)] = some (a ++ c ++ d) := by
  rw [fill_cons place z a 0 0 m _ h0 ha (by omega)]
  have hs : (a.zipIdx.foldl (fun acc (c, j) => acc.setIfInBounds (0 + j) c) z) = (a.toList ++ z.toList.drop m).toArray := by rw [foldArr a z 0 (by omega)]; simp [ha]
  rw [hs, fill_cons place _ c 1 m n _ h1 hc (by simp; omega)]
  have hs2 : (c.zipIdx.foldl (fun acc (c, j) => acc.setIfInBounds (m + j) c) (a.toList ++ z.toList.drop m).toArray) = (a.toList ++ c.toList ++ z.toList.drop (m + n)).toArray := by
    rw [foldArr c _ m (by simp; omega)]
    have hal : a.toList.length = m := by simpa using ha
    simp only [List.toList_toArray]
    rw [List.take_left' hal, List.drop_append, List.drop_of_length_le (by omega), List.nil_append, hal, List.drop_drop, hc]
    congr 3; omega
  rw [hs2, fill_cons place _ d 2 (m + n) q _ h2 hd (by simp; omega), Instr.fill, foldArr d _ (m + n) (by simp; omega)]
  congr 1
  apply Array.ext'
  have hal : (a.toList ++ c.toList).length = m + n := by simp; omega
  have hzl : (z.toList.drop (m + n)).length = q := by rw [List.length_drop]; simp; omega
  simp only [Array.toList_append, List.toList_toArray]
  rw [List.take_left' hal, List.drop_of_length_le (by rw [List.length_append, hal, hzl]; omega), List.append_nil]

/-- a struct out of its parts -/
def rowBuild (t : TypeId) (parts : Array (Nat × Value)) : Sem Value := Instr.build t parts
def slowBuild (t : TypeId) (parts : Array (Nat × Value)) : Sem Value := Instr.build t parts
theorem run_rowBuild2 {P : Program} (w : World) (t : TypeId) (m n : Nat) (z a c : Array Value) (f1 f2 : Field) (hu : P.underlying t = some (.struct #[f1, f2])) (h1 : (sizeOf f1.type).run P w = .ok m w) (h2 : (sizeOf f2.type).run P w = .ok n w)
    (o1 : f1.offset = 0) (o2 : f2.offset = m) (hz : (zeroValue t).run P w = .ok (.agg z) w) (hzn : z.size = m + n) :
    (rowBuild t #[(0, .agg a), (1, .agg c)]).run P w = if a.size = m ∧ c.size = n then .ok (.agg (a ++ c)) w else (slowBuild t #[(0, .agg a), (1, .agg c)]).run P w := by
  split
  · rename_i h
    unfold rowBuild Instr.build
    simp [Sem.run_bind, hz, run_underlying hu, h1, h2, Value.cells, o1, o2]
    have := join2 z a c m n hzn h.1 h.2 (fun i => [(0, m), (m, n)][i]?) rfl rfl
    rw [this]
    rfl
  · rfl

theorem run_rowBuild3 {P : Program} (w : World) (t : TypeId) (m n q : Nat) (z a c d : Array Value) (f1 f2 f3 : Field) (hu : P.underlying t = some (.struct #[f1, f2, f3])) (h1 : (sizeOf f1.type).run P w = .ok m w) (h2 : (sizeOf f2.type).run P w = .ok n w) (h3 : (sizeOf f3.type).run P w = .ok q w)
    (o1 : f1.offset = 0) (o2 : f2.offset = m) (o3 : f3.offset = m + n) (hz : (zeroValue t).run P w = .ok (.agg z) w) (hzn : z.size = m + n + q) :
    (rowBuild t #[(0, .agg a), (1, .agg c), (2, .agg d)]).run P w = if a.size = m ∧ c.size = n ∧ d.size = q then .ok (.agg (a ++ c ++ d)) w else (slowBuild t #[(0, .agg a), (1, .agg c), (2, .agg d)]).run P w := by
  split
  · rename_i h
    unfold rowBuild Instr.build
    simp [Sem.run_bind, hz, run_underlying hu, h1, h2, h3, Value.cells, o1, o2, o3]
    have := join3 z a c d m n q hzn h.1 h.2.1 h.2.2 (fun i => [(0, m), (m, n), (m + n, q)][i]?) rfl rfl rfl
    rw [this]
    simp
  · rfl

@[go_sem ↓] theorem build_row (parts : Array (Nat × Value)) : Instr.build 41 parts = rowBuild 41 parts := rfl
@[go_sem] theorem run_build0_row (w : World) : (rowBuild 41 #[]).run Try.prog w = .ok (.agg (ints [0, 0, 0, 0, 0, 0, 0, 0, 0, 0, 0])) w := by kernel_rfl
@[go_sem] theorem run_build_row (w : World) (a c : Array Value) : (rowBuild 41 #[(0, .agg a), (1, .agg c)]).run Try.prog w = if a.size = 2 ∧ c.size = 9 then .ok (.agg (a ++ c)) w else (slowBuild 41 #[(0, .agg a), (1, .agg c)]).run Try.prog w :=
  run_rowBuild2 w _ 2 9 (List.replicate 11 (Value.int .i64 0)).toArray a c _ _ Try.underlying41 (by kernel_rfl) (by kernel_rfl) rfl rfl (by kernel_rfl) rfl
@[go_sem ↓] theorem build_bond (parts : Array (Nat × Value)) : Instr.build 59 parts = rowBuild 59 parts := rfl
@[go_sem] theorem run_build0_bond (w : World) : (rowBuild 59 #[]).run Try.prog w = .ok (.agg (ints [0, 0, 0, 0])) w := by kernel_rfl
@[go_sem] theorem run_build_bond (w : World) (a c : Array Value) : (rowBuild 59 #[(0, .agg a), (1, .agg c)]).run Try.prog w = if a.size = 2 ∧ c.size = 2 then .ok (.agg (a ++ c)) w else (slowBuild 59 #[(0, .agg a), (1, .agg c)]).run Try.prog w :=
  run_rowBuild2 w _ 2 2 (List.replicate 4 (Value.int .i64 0)).toArray a c _ _ Try.underlying59 (by kernel_rfl) (by kernel_rfl) rfl rfl (by kernel_rfl) rfl
@[go_sem ↓] theorem build_change (parts : Array (Nat × Value)) : Instr.build 72 parts = rowBuild 72 parts := rfl
@[go_sem] theorem run_build0_change (w : World) : (rowBuild 72 #[]).run Try.prog w = .ok (.agg (ints [0, 0, 0, 0, 0, 0, 0, 0, 0, 0, 0, 0, 0, 0, 0, 0, 0, 0, 0, 0])) w := by kernel_rfl
@[go_sem] theorem run_build_change (w : World) (a c d : Array Value) : (rowBuild 72 #[(0, .agg a), (1, .agg c), (2, .agg d)]).run Try.prog w = if a.size = 2 ∧ c.size = 9 ∧ d.size = 9 then .ok (.agg (a ++ c ++ d)) w else (slowBuild 72 #[(0, .agg a), (1, .agg c), (2, .agg d)]).run Try.prog w :=
  run_rowBuild3 w _ 2 9 9 (List.replicate 20 (Value.int .i64 0)).toArray a c d _ _ _ Try.underlying72 (by kernel_rfl) (by kernel_rfl) (by kernel_rfl) rfl rfl rfl (by kernel_rfl) rfl
@[go_sem] theorem row_drewN (w : World) (k g o n : Nat) : row? (w.drewN k) g o n = row? w g o n := rfl
@[go_sem] theorem fits_drewN (w : World) (k g o n : Nat) : Go.Proofs.Ytpgdobomcdpdbaa.fits (w.drewN k) g o n = Go.Proofs.Ytpgdobomcdpdbaa.fits w g o n := rfl
/-- two literal cells ahead -/
@[go_sem] theorem pair_append (a b : Int) (xs : List Int) : (#[Value.int .i64 a, .int .i64 b] : Array Value) ++ ints xs = ints (a :: b :: xs) := by
  unfold ints
  apply Array.ext'
  simp

end Go.Proofs.Ytpgdobomcdpdbaa
