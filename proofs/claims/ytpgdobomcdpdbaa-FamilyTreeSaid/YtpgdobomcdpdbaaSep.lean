/-
  Several objects in memory, apart from each other: what a call makes of one of them leaves the others.
-/
import Derived.Test.YtpgdobomcdpdbaaCol
import Derived.Test.YtpgdobomcdpdbaaStructs
namespace Go.Proofs.Ytpgdobomcdpdbaa
open Go.RowKit

/-- F, and what was laid since -/
def Plus (F : Nat → Prop) (w w' : World) : Nat → Prop := fun k => F k ∨ w.heap.size ≤ k ∧ k < w'.heap.size

/-- a thing in memory, with the blocks that are its own -/
structure Assn where
  at_ : World → (Nat → Prop) → Prop
  frame : ∀ {w w' : World} {F G : Nat → Prop}, at_ w F → Only G w w' → (∀ k, F k → ¬ G k) → at_ w' F
  cut : ∀ {w : World} {F G : Nat → Prop}, at_ w F → (∀ k, k < w.heap.size → F k → G k) → at_ w G

def Sep : List Assn → World → (Nat → Prop) → Prop
  | [], _, _ => True
  | A :: l, w, F => ∃ F1 F2, A.at_ w F1 ∧ Sep l w F2 ∧ (∀ k, F1 k → ¬ F2 k) ∧ ∀ k, F1 k ∨ F2 k → F k

section
variable {A A' B C D : Assn} {l l' : List Assn} {w w' w0 : World} {F G : Nat → Prop}
theorem Sep.frame : ∀ {l : List Assn} {F : Nat → Prop}, Sep l w F → Only G w w' → (∀ k, F k → ¬ G k) → Sep l w' F
  | [], _, _, _, _ => trivial
  | A :: l, F, ⟨F1, F2, h1, h2, h3, h4⟩, ho, hd => ⟨F1, F2, A.frame h1 ho fun k hk => hd k (h4 k (Or.inl hk)), Sep.frame h2 ho fun k hk => hd k (h4 k (Or.inr hk)), h3, h4⟩
theorem Sep.cut : ∀ {l : List Assn} {F G : Nat → Prop}, Sep l w F → (∀ k, k < w.heap.size → F k → G k) → Sep l w G
  | [], _, _, _, _ => trivial
  | A :: l, F, G, ⟨F1, F2, h1, h2, h3, h4⟩, hd =>
    ⟨fun k => F1 k ∧ k < w.heap.size, fun k => F2 k ∧ k < w.heap.size, A.cut h1 fun k hk h => ⟨h, hk⟩, Sep.cut h2 fun k hk h => ⟨h, hk⟩, fun k a b => h3 k a.1 b.1, fun k h => by
      rcases h with h | h
      · exact hd k h.2 (h4 k (Or.inl h.1))
      · exact hd k h.2 (h4 k (Or.inr h.1))⟩
theorem Sep.head (h : Sep (A :: l) w F) : A.at_ w F := by
  obtain ⟨F1, F2, h1, h2, h3, h4⟩ := h
  exact A.cut h1 fun k _ hk => h4 k (Or.inl hk)
theorem Sep.tail (h : Sep (A :: l) w F) : Sep l w F := by
  obtain ⟨F1, F2, h1, h2, h3, h4⟩ := h
  exact h2.cut fun k _ hk => h4 k (Or.inr hk)
theorem Sep.swap (h : Sep (A :: B :: l) w F) : Sep (B :: A :: l) w F := by
  obtain ⟨F1, F2, h1, ⟨F3, F4, g1, g2, g3, g4⟩, h3, h4⟩ := h
  refine ⟨F3, fun k => F1 k ∨ F4 k, g1, ⟨F1, F4, h1, g2, fun k a b => h3 k a (g4 k (Or.inr b)), fun k h => h⟩, fun k a b => ?_, fun k h => ?_⟩
  · rcases b with b | b
    · exact h3 k b (g4 k (Or.inl a))
    · exact g3 k a b
  · rcases h with h | h | h
    · exact h4 k (Or.inr (g4 k (Or.inl h)))
    · exact h4 k (Or.inl h)
    · exact h4 k (Or.inr (g4 k (Or.inr h)))
theorem Sep.tail_map {l l' : List Assn} (hl : ∀ F, Sep l w F → Sep l' w F) (h : Sep (A :: l) w F) : Sep (A :: l') w F := by
  obtain ⟨F1, F2, h1, h2, h3, h4⟩ := h
  exact ⟨F1, F2, h1, hl _ h2, h3, h4⟩
theorem Sep.perm (hp : l.Perm l') : ∀ {F : Nat → Prop}, Sep l w F → Sep l' w F := by
  induction hp with
  | nil => exact fun h => h
  | cons a _ ih => exact fun h => h.tail_map fun _ => ih
  | swap a b l => exact fun h => h.swap
  | trans _ _ ih1 ih2 => exact fun h => ih2 (ih1 h)

/-- since w0 only F, and what is new, has turned; and there are these things, apart, in F and in what is new -/
structure In (F : Nat → Prop) (w0 : World) (l : List Assn) (w : World) : Prop where
  sep : Sep l w (fun k => (F k ∨ w0.heap.size ≤ k) ∧ k < w.heap.size)
  only : Only F w0 w

theorem In.mk' {F' : Nat → Prop} (h : Sep l w F') (hF : ∀ k, k < w.heap.size → F' k → F k ∨ w0.heap.size ≤ k) (ho : Only F w0 w) : In F w0 l w := ⟨h.cut fun k hk hf => ⟨hF k hk hf, hk⟩, ho⟩
theorem In.nil (w : World) (F : Nat → Prop) : In F w [] w := ⟨trivial, Only.refl⟩
theorem In.one (h : A.at_ w F) : In F w [A] w := ⟨⟨fun k => F k ∧ k < w.heap.size, fun _ => False, A.cut h fun k hk hf => ⟨hf, hk⟩, trivial, fun _ _ h => h, fun k h => by rcases h with h | h; exact ⟨Or.inl h.1, h.2⟩; exact h.elim⟩, Only.refl⟩
theorem In.start (h : Sep l w F) : In F w l w := ⟨h.cut fun k hk hf => ⟨Or.inl hf, hk⟩, Only.refl⟩
theorem In.perm (h : In F w0 l w) (hp : l.Perm l') : In F w0 l' w := ⟨h.sep.perm hp, h.only⟩
theorem In.swap (h : In F w0 (A :: B :: l) w) : In F w0 (B :: A :: l) w := ⟨h.sep.swap, h.only⟩
theorem In.third (h : In F w0 (A :: B :: C :: l) w) : In F w0 (C :: A :: B :: l) w := ⟨(h.sep.tail_map fun _ => Sep.swap).swap, h.only⟩
theorem In.fourth (h : In F w0 (A :: B :: C :: D :: l) w) : In F w0 (D :: A :: B :: C :: l) w := ⟨((h.sep.tail_map fun _ => Sep.tail_map fun _ => Sep.swap).tail_map fun _ => Sep.swap).swap, h.only⟩
theorem In.drop (h : In F w0 (A :: l) w) : In F w0 l w := ⟨h.sep.tail, h.only⟩
theorem In.head (h : In F w0 (A :: l) w) : ∃ F1, A.at_ w F1 := ⟨_, h.sep.head⟩
theorem In.size (h : In F w0 l w) : w0.heap.size ≤ w.heap.size := h.only.size
/-- one of them is handed to a call -/
theorem In.open_ (h : In F w0 (A :: l) w) : ∃ F1, A.at_ w F1 ∧ (∀ k, F1 k → (F k ∨ w0.heap.size ≤ k) ∧ k < w.heap.size) ∧ ∀ {w' : World} {A' : Assn}, A'.at_ w' (Plus F1 w w') → Only F1 w w' → In F w0 (A' :: l) w' := by
  obtain ⟨⟨F1, F2, h1, h2, h3, h4⟩, ho⟩ := h
  refine ⟨F1, h1, fun k hk => h4 k (Or.inl hk), fun {w'} {A'} ha ho' => ?_⟩
  refine ⟨⟨_, F2, ha, h2.frame ho' fun k a b => h3 k b a, fun k a b => ?_, fun k h => ?_⟩, ho.trans' ho' fun k hk hf => ?_⟩
  · rcases a with a | a
    · exact h3 k a b
    · have := (h4 k (Or.inr b)).2; omega
  · have hs := ho'.size
    have hs0 := ho.size
    rcases h with (h | h) | h
    · have := h4 k (Or.inl h); exact ⟨this.1, by omega⟩
    · exact ⟨Or.inr (by omega), h.2⟩
    · have := h4 k (Or.inr h); exact ⟨this.1, by omega⟩
  · have := h4 k (Or.inl hf)
    rcases this.1 with h | h
    · exact h
    · omega
/-- a call that makes memory, and hands back a new thing -/
theorem In.new (h : In F w0 l w) (hb : Below w.heap.size w w') (ha : A.at_ w' (fun k => w.heap.size ≤ k)) : In F w0 (A :: l) w' := by
  obtain ⟨hs, ho⟩ := h
  have hsz := hb.size
  have hsz0 := ho.size
  refine ⟨⟨fun k => w.heap.size ≤ k ∧ k < w'.heap.size, _, A.cut ha fun k hk hf => ⟨hf, hk⟩, hs.frame (G := fun k => w.heap.size ≤ k) ?_ fun k a b => by omega, fun k a b => by omega, fun k h => ?_⟩, ho.trans (Only.of_below hb)⟩
  · exact Only.of_below hb
  · rcases h with h | h
    · exact ⟨Or.inr (by omega), h.2⟩
    · exact ⟨h.1, by omega⟩
theorem In.below (h : In F w0 l w) (hb : Below w.heap.size w w') : In F w0 l w' := by
  have hsz := hb.size
  exact ⟨(h.sep.frame (G := fun k => w.heap.size ≤ k) (Only.of_below hb) fun k a b => by omega).cut fun k _ hf => ⟨hf.1, by omega⟩, h.only.trans (Only.of_below hb)⟩
theorem In.drew (h : In F w0 l w) : In F w0 l w.drew := h.below (Below.refl _ _).drew
/-- at the end -/
theorem In.done (h : In F w0 (A :: l) w) : A.at_ w (Plus F w0 w) ∧ Only F w0 w :=
  ⟨A.cut h.sep.head fun k _ hk => by rcases hk.1 with h | h; exact Or.inl h; exact Or.inr ⟨h, hk.2⟩, h.only⟩
theorem In.below0 (h : In (fun _ => False) w0 l w) : Below w0.heap.size w0 w := h.only.below (Nat.le_refl _) fun _ _ h => h.elim
theorem In.fresh (h : In (fun _ => False) w0 (A :: l) w) : A.at_ w (fun k => w0.heap.size ≤ k) := A.cut h.sep.head fun k _ hk => by rcases hk.1 with h | h; exact h.elim; exact h
/-- a step within: another list of things there -/
theorem In.turn (h : In F w0 l w) (ht : ∀ F, Sep l w F → Sep l' w F) : In F w0 l' w := ⟨ht _ h.sep, h.only⟩
/-- what was there at the start, and is not in F, is there -/
theorem In.old (h : In F w0 l w) {k : Nat} (hk : k < w0.heap.size) (hF : ¬ F k) : w.heap[k]? = w0.heap[k]? := h.only.block k hk hF
end

/-- a block of cells -/
def Box (g : Nat) (t : TypeId) (cs : Array Value) : Assn where
  at_ w F := Blk w g t cs ∧ F g
  frame h ho hd := ⟨ho.blk h.1 (hd _ h.2), h.2⟩
  cut h hd := ⟨h.1, hd _ h.1.lt h.2⟩
section
variable {l : List Assn} {w w0 : World} {F : Nat → Prop} {g : Nat} {t : TypeId} {cs : Array Value}
theorem In.alloc (h : In F w0 l w) (t : TypeId) (cs : Array Value) : In F w0 (Box w.heap.size t cs :: l) (w.alloc (.cells cs t)) :=
  h.new ((Below.refl _ _).alloc (Nat.le_refl _) _) ⟨Blk.new _ _ _, Nat.le_refl _⟩
theorem In.blk (h : In F w0 (Box g t cs :: l) w) : Blk w g t cs := h.sep.head.1
theorem In.set (h : In F w0 (Box g t cs :: l) w) (i : Nat) (v : Value) : In F w0 (Box g t (cs.setIfInBounds i v) :: l) (w.setCell ⟨g, i, none⟩ v) := by
  obtain ⟨F1, ⟨h1, h2⟩, hF, hb⟩ := h.open_
  exact hb (A' := Box g t (cs.setIfInBounds i v)) ⟨h1.set i v, Or.inl h2⟩ (Only.refl.setCell (Or.inl h2) _ _)
theorem Only.putRow (w : World) (g o : Nat) (xs : List Int) : Only (· = g) w (putRow w g o xs) := ⟨rfl, rfl, rfl, by rw [putRow_size]; exact Nat.le_refl _, fun q _ hq => putRow_other w g o xs q hq⟩
theorem In.put {ys : List Int} (h : In F w0 (Box g t (ints ys) :: l) w) (o : Nat) (xs : List Int) : In F w0 (Box g t (ints (ys.take o ++ xs ++ ys.drop (o + xs.length))) :: l) (putRow w g o xs) := by
  obtain ⟨F1, ⟨h1, h2⟩, hF, hb⟩ := h.open_
  exact hb (A' := Box g t _) ⟨h1.put o xs, Or.inl h2⟩ ((Only.putRow w g o xs).mono fun k _ e => by rw [e]; exact h2)
theorem In.put_all {ys : List Int} (h : In F w0 (Box g t (ints ys) :: l) w) (xs : List Int) (hl : xs.length = ys.length) : In F w0 (Box g t (ints xs) :: l) (putRow w g 0 xs) := by
  have := h.put 0 xs
  rwa [List.take_zero, List.nil_append, Nat.zero_add, hl, List.drop_length, List.append_nil] at this
/-- a new struct of ints, and what is stored there at once -/
theorem In.struct (h : In F w0 l w) (t : TypeId) (ys xs : List Int) (hl : xs.length = ys.length) : In F w0 (Box w.heap.size t (ints xs) :: l) (Go.Proofs.Ytpgdobomcdpdbaa.putRow (w.alloc (.cells (ints ys) t)) w.heap.size 0 xs) :=
  (h.alloc t (ints ys)).put_all xs hl
end

/-- a slice of one's own -/
def RowA (E : TypeId) (size : Nat) (v : Value) (n : Nat) (xs : List Value) : Assn where
  at_ w F := w.ownsRow 0 E size v n xs ∧ ∀ k, v.ownBlock = some k → F k
  frame h ho hd := ⟨ho.own h.1 fun k hk => hd k (h.2 k hk), h.2⟩
  cut h hd := ⟨h.1, fun k hk => hd k (h.1.lt k hk).2 (h.2 k hk)⟩
/-- a struct of one slice behind a pointer -/
def Col {α : Type} (T E : TypeId) (size : Nat) (enc : α → List Value) (p : Nat) (xs : List α) : Assn where
  at_ w F := ColAt T E size enc w p xs F
  frame h ho hd := h.only ho hd
  cut h hd := h.mono hd

end Go.Proofs.Ytpgdobomcdpdbaa
