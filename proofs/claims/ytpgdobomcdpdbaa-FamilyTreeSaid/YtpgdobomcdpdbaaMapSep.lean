/-
  Maps, and ranges over them, among other things in memory.
-/
import Derived.Test.YtpgdobomcdpdbaaMapMem
import Derived.Test.YtpgdobomcdpdbaaSep
namespace Go.Proofs.Ytpgdobomcdpdbaa
open Go.RowKit

/-- a map, among other things -/
def MapA {κ ν : Type} (ek : κ → Value) (ev : ν → Value) (good : κ → Prop) (b : Nat) (m : List (κ × ν)) : Assn where
  at_ w F := MapAt ek ev good w b m ∧ F b
  frame h ho hd := ⟨h.1.only ho (hd _ h.2), h.2⟩
  cut h hd := ⟨h.1, hd _ h.1.lt h.2⟩
/-- a range over a map under way -/
def RangeA {κ ν : Type} (ek : κ → Value) (ev : ν → Value) (good : κ → Prop) (b r : Nat) (m left : List (κ × ν)) : Assn where
  at_ w F := RangeAt ek ev good w b r m left ∧ F b ∧ F r
  frame h ho hd := ⟨h.1.only ho (hd _ h.2.1) (hd _ h.2.2), h.2⟩
  cut h hd := ⟨h.1, hd _ h.1.map.lt h.2.1, hd _ h.1.lt h.2.2⟩

section
variable {κ ν : Type} {ek : κ → Value} {ev : ν → Value} {good : κ → Prop} {b r : Nat} {m m' left left' : List (κ × ν)} {F : Nat → Prop} {w0 w w' : World} {l : List Assn}
theorem In.mapAt (h : In F w0 (MapA ek ev good b m :: l) w) : MapAt ek ev good w b m := h.sep.head.1
theorem In.mapped (h : In F w0 (MapA ek ev good b m :: l) w) (h1 : MapAt ek ev good w' b m') (h2 : Only (· = b) w w') : In F w0 (MapA ek ev good b m' :: l) w' := by
  obtain ⟨F1, hA, hF, hback⟩ := h.open_
  exact hback (A' := MapA ek ev good b m') ⟨h1, Or.inl hA.2⟩ (h2.mono fun k _ e => by rw [e]; exact hA.2)
theorem In.newMap (h : In F w0 l w) (ek : κ → Value) (ev : ν → Value) (good : κ → Prop) : In F w0 (MapA ek ev good w.heap.size [] :: l) (w.alloc (.map #[] 0)) :=
  h.new (A := MapA ek ev good w.heap.size []) ((Below.refl _ _).alloc (Nat.le_refl _) _) ⟨MapAt.new _ _ _ _, Nat.le_refl _⟩
theorem In.rangeAt (h : In F w0 (RangeA ek ev good b r m left :: l) w) : RangeAt ek ev good w b r m left := h.sep.head.1
theorem In.ranged (h : In F w0 (MapA ek ev good b m :: l) w) (hr : RangeAt ek ev good w' b w.heap.size m left) (hb : Below w.heap.size w w') (hs : w'.heap.size = w.heap.size + 1) : In F w0 (RangeA ek ev good b w.heap.size m left :: l) w' := by
  obtain ⟨F1, hA, hF, hback⟩ := h.open_
  exact hback (A' := RangeA ek ev good b w.heap.size m left) ⟨hr, Or.inl hA.2, Or.inr ⟨Nat.le_refl _, by omega⟩⟩ (Only.of_below hb)
theorem In.stepped (h : In F w0 (RangeA ek ev good b r m left :: l) w) (hr : RangeAt ek ev good w' b r m left') (ho : Only (· = r) w w') : In F w0 (RangeA ek ev good b r m left' :: l) w' := by
  obtain ⟨F1, hA, hF, hback⟩ := h.open_
  exact hback (A' := RangeA ek ev good b r m left') ⟨hr, Or.inl hA.2.1, Or.inl hA.2.2⟩ (ho.mono fun k _ e => by rw [e]; exact hA.2.2)
theorem In.rangeDropped (h : In F w0 (RangeA ek ev good b r m left :: l) w) (hr : RangeAt ek ev good w' b r m' left') (ho : Only (· = b) w w') : In F w0 (RangeA ek ev good b r m' left' :: l) w' := by
  obtain ⟨F1, hA, hF, hback⟩ := h.open_
  exact hback (A' := RangeA ek ev good b r m' left') ⟨hr, Or.inl hA.2.1, Or.inl hA.2.2⟩ (ho.mono fun k _ e => by rw [e]; exact hA.2.1)
theorem In.unranged (h : In F w0 (RangeA ek ev good b r m left :: l) w) : In F w0 (MapA ek ev good b m :: l) w := by
  obtain ⟨F1, hA, hF, hback⟩ := h.open_
  exact hback (A' := MapA ek ev good b m) ⟨hA.1.map, Or.inl hA.2.1⟩ Only.refl
theorem RangeAt.sub (h : RangeAt ek ev good w b r m left) : ∀ p ∈ left, p ∈ m := by
  obtain ⟨es, clock, since, seen, c0, _, _, _, _, _, _, _, _, _, h10⟩ := h; exact h10
end
theorem In.add0 {A : Assn} {F : Nat → Prop} {w0 w : World} {l : List Assn} (h : In F w0 l w) (ha : A.at_ w (fun _ => False)) : In F w0 (A :: l) w :=
  ⟨⟨fun _ => False, _, ha, h.sep, fun _ h => h.elim, fun k h => by rcases h with h | h; exact h.elim; exact h⟩, h.only⟩
/-- a slice of ints of one's own -/
abbrev IntsA (v : Value) (zs : List Int) : Assn := RowA 3 1 v zs.length (zs.map (Value.int .i64))
theorem In.intsAt {F : Nat → Prop} {w0 w : World} {l : List Assn} {v : Value} {zs : List Int} (h : In F w0 (IntsA v zs :: l) w) : ∃ A c, v = .slice A zs.length c ∧ ReadsI w w.heap.size A zs.length zs := by
  have : OwnI w 0 v zs := h.sep.head.1
  exact this.form
theorem own_base {w : World} {B : Nat} {e : TypeId} {size n : Nat} {v : Value} {xs : List Value} (h : w.ownsRow B e size v n xs) : w.ownsRow 0 e size v n xs :=
  ⟨h.1, by rcases h.2 with h | ⟨g, cap, cur, e, _, r⟩; exact Or.inl h; exact Or.inr ⟨g, cap, cur, e, Nat.zero_le _, r⟩⟩
theorem In.newInts {F : Nat → Prop} {w0 w w' : World} {l : List Assn} {v : Value} {zs : List Int} (h : In F w0 l w) (ho : OwnI w' w.heap.size v zs) (hb : Below w.heap.size w w') : In F w0 (IntsA v zs :: l) w' :=
  h.new hb ⟨own_base ho, fun k hk => (World.ownsRow.lt ho k hk).1⟩
theorem wf_small {x : Int} (h : -1000000000000 ≤ x ∧ x ≤ 1000000000000) : (Lit.int .i64 x).wf = true := WalkArith.wf_i64 (by omega)
theorem keyI : KeyOk Try.prog 3 (Value.int .i64) (fun x => (Lit.int .i64 x).wf = true) := intKey Try.underlying3
theorem zero_bool (w : World) : (zeroValue 4).run Try.prog w = .ok (.bool false) w := by kernel_rfl
abbrev goodI (x : Int) : Prop := (Lit.int .i64 x).wf = true
section
variable {κ ν : Type} [DecidableEq κ] {m : List (κ × ν)}
theorem mput_len_new {x : κ} {v : ν} (h : mget m x = none) : (mput m x v).length = m.length + 1 := by
  unfold mput
  rw [if_neg]
  · simp
  · intro ha
    obtain ⟨p, hp, e⟩ := List.any_eq_true.1 ha
    exact mget_none.1 h (List.mem_map.2 ⟨p, hp, by simpa using e⟩)
end

end Go.Proofs.Ytpgdobomcdpdbaa
