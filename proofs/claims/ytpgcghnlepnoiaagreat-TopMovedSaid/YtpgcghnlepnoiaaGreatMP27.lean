/-
  Several texts in one (merged by a program of mine): ReverseOwn.
-/
import Derived.Test.YtpgcghnlepnoiaaGreatMP26
import Derived.Shelf.SlicesQ.Reverse
set_option linter.unusedVariables false
set_option linter.unusedSimpArgs false
set_option linter.unusedSectionVars false
/-
  slices.Reverse of a slice of structs of the call's own, among other things in memory.
-/
namespace Go.Proofs.YtpgcghnlepnoiaaGreat
open Go.RowKit Go.Shelf Go.Sort

section
variable {α : Type} [Inhabited α] {enc : α → List Value} {k : Nat} {ρ : Ren} {G : Nat → Prop} {w0 w : World} {l : List Assn} {v : Value} {xs : List α}
theorem sorted_none (enc : α → List Value) (k : Nat) (w : World) (g m : Nat) (d : Array α) : putRowK enc k (Sort.ahead w m) g 0 d = sortWorldK enc k w g 0 m d #[] := by
  unfold sortWorldK
  exact (grow_empty _).symm
theorem reverse_in (L : SlLaysE0.n35 Tryz.prog ρ) (aE : ∀ w, (isAgg (ρ.t 23)).run Tryz.prog w = .ok true w) (zE : ∀ w, (Go.sizeOf (ρ.t 23)).run Tryz.prog w = .ok k w) (hk : ∀ x, (enc x).length = k) (h1 : ∀ x, ∀ u ∈ enc x, u.oneCell' = true) (E : TypeId)
    (h : In G w0 (RowA E k v xs.length (xs.flatMap enc) :: l) w) (hl : xs.length ≤ 1099511627776) :
    Calls Tryz.prog (ρ.f 35) #[v] w fun e w' => e = .returned (.tuple #[]) ∧ In G w0 (RowA E k v xs.reverse.length (xs.reverse.flatMap enc) :: l) w' := by
  obtain ⟨F1, ⟨hA, hF⟩, _, hback⟩ := h.open_
  obtain ⟨A, c, rfl, hc1, hc2, hg⟩ := own_form hA
  by_cases h0 : xs.length = 0
  · have hx : xs = [] := List.eq_nil_of_length_eq_zero h0
    subst hx
    exact (AnyQ.slices_Reverse_empty L A c w).mono fun e w' ⟨he, hw⟩ => ⟨he, by rw [hw]; exact h⟩
  · obtain ⟨b, rfl⟩ := hg (by omega)
    have hcon := AnyQ.slices_Reverse L k aE zE enc hk h1 b 0 c xs.toArray w (holds_of_own hk hA) (by simp; omega)
    refine hcon.mono ?_
    rintro e w' ⟨he, n, rfl⟩
    have hd : xs.toArray.reverse.size = xs.length := by simp
    have hv : xs.toArray.reverse.toList = xs.reverse := by simp
    refine ⟨he, ?_⟩
    rw [sorted_none]
    refine hback (A' := RowA E k (.slice (some ⟨b, 0, none⟩) xs.length c) xs.reverse.length (xs.reverse.flatMap enc)) ⟨?_, fun q hq => Or.inl (hF q hq)⟩ ((only_sorted w b n _ #[]).mono fun q _ e => by subst e; exact hF _ rfl)
    have := own_sorted hk hA n xs.toArray.reverse hd #[]
    rw [hv] at this
    have e2 : xs.reverse.length = xs.length := List.length_reverse
    rw [e2] at this ⊢
    exact this
end

def revH_ren : Ren := ⟨fun | 35 => 32 | n => n, fun | 0 => 0 | 3 => 3 | 4 => 4 | 22 => 88 | 23 => 30 | n => n, fun n => n⟩
theorem revH_lay : SlLaysE0.n35 Tryz.prog revH_ren := {
  mixed := by kernel_rfl,
  f35 := ⟨Tryz.f32.name, by decide, Tryz.func32.trans (congrArg some (by kernel_rfl))⟩,
  t0 := Tryz.underlying0,
  a0 := Tryz.isAgg0,
  z0 := Tryz.sizeOf0,
  v0 := Tryz.zeroValue0,
  t3 := Tryz.underlying3,
  a3 := Tryz.isAgg3,
  z3 := Tryz.sizeOf3,
  v3 := Tryz.zeroValue3,
  t4 := Tryz.underlying4,
  a4 := Tryz.isAgg4,
  z4 := Tryz.sizeOf4,
  v4 := Tryz.zeroValue4,
  t22 := Tryz.underlying88,
  a22 := Tryz.isAgg88,
  z22 := Tryz.sizeOf88,
  v22 := Tryz.zeroValue88 }
theorem reverseH_in {G : Nat → Prop} {w0 w : World} {l : List Assn} {v : Value} {hs : List Hd} (h : In G w0 (RowH v hs :: l) w) (hl : hs.length ≤ 1099511627776) :
    Calls Tryz.prog 32 #[v] w fun e w' => e = .returned (.tuple #[]) ∧ In G w0 (RowH v hs.reverse :: l) w' :=
  reverse_in revH_lay Tryz.isAgg30 Tryz.sizeOf30 hC_len (fun x u hu => by
    simp [hC] at hu
    rcases hu with rfl | rfl <;> rfl) 30 h hl

end Go.Proofs.YtpgcghnlepnoiaaGreat
