/-
  More on things that lie apart: families of things; parts.
-/
import Derived.Test.YtpgdobomcdpdbaaSep
namespace Go.Proofs.Ytpgdobomcdpdbaa
open Go.RowKit

section
variable {κ : Type} [DecidableEq κ] {l : List Assn} {ks : List κ} {f : κ → Assn} {F : Nat → Prop} {w0 w : World}
theorem erase_map {k : κ} {g : κ → Assn} (hn : ks.Nodup) (A : Assn) : (ks.erase k).map (fun j => if j = k then A else g j) = (ks.erase k).map g := by
  apply List.map_congr_left
  intro j hj
  rw [if_neg]
  rintro rfl
  exact (List.Nodup.not_mem_erase hn) hj
/-- one of a family is handed to a call -/
theorem In.openAt (h : In F w0 (l ++ ks.map f) w) (hn : ks.Nodup) {k : κ} (hk : k ∈ ks) : ∃ F1, (f k).at_ w F1 ∧ (∀ k, F1 k → (F k ∨ w0.heap.size ≤ k) ∧ k < w.heap.size) ∧
    ∀ (w' : World) (A' : Assn), A'.at_ w' (Plus F1 w w') → Only F1 w w' → In F w0 (l ++ ks.map (fun j => if j = k then A' else f j)) w' := by
  have hp : (l ++ ks.map f).Perm (f k :: (l ++ (ks.erase k).map f)) :=
    (List.Perm.append_left l ((List.perm_cons_erase hk).map f)).trans List.perm_middle
  obtain ⟨F1, h1, h2, h3⟩ := (h.perm hp).open_
  refine ⟨F1, h1, h2, fun w' A' ha ho => (h3 ha ho).perm ?_⟩
  have hp' : (l ++ ks.map (fun j => if j = k then A' else f j)).Perm ((if k = k then A' else f k) :: (l ++ (ks.erase k).map (fun j => if j = k then A' else f j))) :=
    (List.Perm.append_left l ((List.perm_cons_erase hk).map (fun j => if j = k then A' else f j))).trans List.perm_middle
  rw [if_pos rfl, erase_map hn] at hp'
  exact hp'.symm
theorem In.readAt (h : In F w0 (l ++ ks.map f) w) (hn : ks.Nodup) {k : κ} (hk : k ∈ ks) : ∃ F1, (f k).at_ w F1 := by
  obtain ⟨F1, h1, _⟩ := h.openAt hn hk; exact ⟨F1, h1⟩
end

theorem Sep.join {w : World} : ∀ {l1 l2 : List Assn} {F1 F2 : Nat → Prop}, Sep l1 w F1 → Sep l2 w F2 → (∀ k, F1 k → ¬ F2 k) → Sep (l1 ++ l2) w (fun k => F1 k ∨ F2 k)
  | [], _, _, _, _, h2, _ => h2.cut fun _ _ h => Or.inr h
  | A :: l1, _, _, _, ⟨G1, G2, g1, g2, g3, g4⟩, h2, hd =>
    ⟨G1, _, g1, Sep.join g2 h2 (fun k a b => hd k (g4 k (Or.inr a)) b), fun k a b => by rcases b with b | b; exact g3 k a b; exact hd k (g4 k (Or.inl a)) b, fun k h => by rcases h with h | h | h; exact Or.inl (g4 k (Or.inl h)); exact Or.inl (g4 k (Or.inr h)); exact Or.inr h⟩
theorem Sep.part {w : World} : ∀ {l1 l2 : List Assn} {F : Nat → Prop}, Sep (l1 ++ l2) w F → ∃ F1 F2, Sep l1 w F1 ∧ Sep l2 w F2 ∧ (∀ k, F1 k → ¬ F2 k) ∧ ∀ k, F1 k ∨ F2 k → F k
  | [], _, F, h => ⟨fun _ => False, F, trivial, h, fun _ h => h.elim, fun k h => by rcases h with h | h; exact h.elim; exact h⟩
  | A :: l1, l2, F, ⟨G1, G2, g1, g2, g3, g4⟩ => by
    obtain ⟨H1, H2, k1, k2, k3, k4⟩ := Sep.part g2
    refine ⟨fun k => G1 k ∨ H1 k, H2, ⟨G1, H1, g1, k1, fun k a b => g3 k a (k4 k (Or.inl b)), fun k h => h⟩, k2, fun k a b => ?_, fun k h => ?_⟩
    · rcases a with a | a
      · exact g3 k a (k4 k (Or.inr b))
      · exact k3 k a b
    · rcases h with (h | h) | h
      · exact g4 k (Or.inl h)
      · exact g4 k (Or.inr (k4 k (Or.inl h)))
      · exact g4 k (Or.inr (k4 k (Or.inr h)))
theorem In.doneL {l : List Assn} {F : Nat → Prop} {w0 w : World} (h : In F w0 l w) : Sep l w (Plus F w0 w) ∧ Only F w0 w :=
  ⟨h.sep.cut fun k _ hk => by rcases hk.1 with h | h; exact Or.inl h; exact Or.inr ⟨h, hk.2⟩, h.only⟩

/-- two new structs, and what is stored there at once -/
theorem two_fits (w : World) (t t' : TypeId) (us zs xs : List Int) : fits ((w.alloc (.cells (ints us) t)).alloc (.cells (ints zs) t')) w.heap.size 0 us.length = true ∧
    fits (putRow ((w.alloc (.cells (ints us) t)).alloc (.cells (ints zs) t')) w.heap.size 0 xs) (w.heap.size + 1) 0 zs.length = true := by
  have h2 := Blk.new (w.alloc (.cells (ints us) t)) t' (ints zs)
  rw [World.size_alloc] at h2
  exact ⟨((Blk.new w t (ints us)).alloc _).fits 0 _ (by rw [ints_size]; omega), (h2.put_far (g' := w.heap.size) 0 xs (by omega)).fits 0 _ (by rw [ints_size]; omega)⟩
theorem In.struct2 {F : Nat → Prop} {w0 w : World} {l : List Assn} (h : In F w0 l w) (t t' : TypeId) (us zs xs ys : List Int) (h1 : xs.length = us.length) (h2 : ys.length = zs.length) :
    In F w0 (Box (w.heap.size + 1) t' (ints ys) :: Box w.heap.size t (ints xs) :: l) (Go.Proofs.Ytpgdobomcdpdbaa.putRow (Go.Proofs.Ytpgdobomcdpdbaa.putRow ((w.alloc (.cells (ints us) t)).alloc (.cells (ints zs) t')) w.heap.size 0 xs) (w.heap.size + 1) 0 ys) := by
  have g := (h.alloc t (ints us)).alloc t' (ints zs)
  rw [World.size_alloc] at g
  exact ((g.swap.put_all xs h1).swap).put_all ys h2

theorem three_fits (w : World) (t t' t'' : TypeId) (us zs ws xs ys : List Int) : fits (((w.alloc (.cells (ints us) t)).alloc (.cells (ints zs) t')).alloc (.cells (ints ws) t'')) w.heap.size 0 us.length = true ∧
    fits (putRow (((w.alloc (.cells (ints us) t)).alloc (.cells (ints zs) t')).alloc (.cells (ints ws) t'')) w.heap.size 0 xs) (w.heap.size + 1) 0 zs.length = true ∧
    fits (putRow (putRow (((w.alloc (.cells (ints us) t)).alloc (.cells (ints zs) t')).alloc (.cells (ints ws) t'')) w.heap.size 0 xs) (w.heap.size + 1) 0 ys) (w.heap.size + 1 + 1) 0 ws.length = true := by
  have h2 := (Blk.new (w.alloc (.cells (ints us) t)) t' (ints zs)).alloc (.cells (ints ws) t'')
  have h3 := Blk.new ((w.alloc (.cells (ints us) t)).alloc (.cells (ints zs) t')) t'' (ints ws)
  simp only [World.size_alloc] at h2 h3
  exact ⟨(((Blk.new w t (ints us)).alloc _).alloc _).fits 0 _ (by rw [ints_size]; omega), (h2.put_far (g' := w.heap.size) 0 xs (by omega)).fits 0 _ (by rw [ints_size]; omega),
    ((h3.put_far (g' := w.heap.size) 0 xs (by omega)).put_far (g' := w.heap.size + 1) 0 ys (by omega)).fits 0 _ (by rw [ints_size]; omega)⟩
theorem In.struct3 {F : Nat → Prop} {w0 w : World} {l : List Assn} (h : In F w0 l w) (t t' t'' : TypeId) (us zs ws xs ys vs : List Int) (h1 : xs.length = us.length) (h2 : ys.length = zs.length) (h3 : vs.length = ws.length) :
    In F w0 (Box (w.heap.size + 1 + 1) t'' (ints vs) :: Box (w.heap.size + 1) t' (ints ys) :: Box w.heap.size t (ints xs) :: l) (Go.Proofs.Ytpgdobomcdpdbaa.putRow (Go.Proofs.Ytpgdobomcdpdbaa.putRow (Go.Proofs.Ytpgdobomcdpdbaa.putRow (((w.alloc (.cells (ints us) t)).alloc (.cells (ints zs) t')).alloc (.cells (ints ws) t'')) w.heap.size 0 xs) (w.heap.size + 1) 0 ys) (w.heap.size + 1 + 1) 0 vs) := by
  have g := ((h.alloc t (ints us)).alloc t' (ints zs)).alloc t'' (ints ws)
  simp only [World.size_alloc] at g
  exact (((g.third.put_all xs h1).third.put_all ys h2).third).put_all vs h3
theorem In.fifth {F : Nat → Prop} {w0 w : World} {A B C D E : Assn} {l : List Assn} (h : In F w0 (A :: B :: C :: D :: E :: l) w) : In F w0 (E :: A :: B :: C :: D :: l) w :=
  ⟨((h.sep.tail_map fun _ => Sep.tail_map fun _ => Sep.tail_map fun _ => Sep.swap).tail_map fun _ => Sep.tail_map fun _ => Sep.swap).tail_map (fun _ => Sep.swap) |>.swap, h.only⟩

end Go.Proofs.Ytpgdobomcdpdbaa
