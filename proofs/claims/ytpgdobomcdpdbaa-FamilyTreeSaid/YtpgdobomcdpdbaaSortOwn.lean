/-
  slices.SortFunc at a slice of structs of the call's own, among other things in memory.
-/
import Derived.Test.YtpgdobomcdpdbaaSepMore
import Derived.Shelf.SlSortCmp.NoneTotal
namespace Go.Proofs.Ytpgdobomcdpdbaa
open Go.RowKit Go.Shelf Go.Sort

section
variable {α : Type} [Inhabited α] {enc : α → List Value} {k : Nat}
theorem flatK_toList (hk : ∀ x, (enc x).length = k) (d : Array α) : (flatK enc k d).toList = d.toList.flatMap enc := by
  apply List.ext_getElem?
  intro t
  have hl := flat_len hk d.toList
  by_cases ht : t < d.size * k
  · have hk0 : 0 < k := by rcases Nat.eq_zero_or_pos k with h | h; subst h; simp at ht; exact h
    have hd : t / k < d.size := (Nat.div_lt_iff_lt_mul hk0).2 ht
    have hm := Nat.mod_lt t hk0
    have h1 := get_flatK enc k d t ht
    have e1 : (flatK enc k d).toList[t]? = some ((enc d[t / k]!)[t % k]!) := by
      rw [Array.getElem?_toList, Array.getElem?_eq_getElem (by simpa using ht), ← h1]
      rw [getElem!_pos (flatK enc k d) t (by simpa using ht)]
    have e2 := flat_get hk d.toList (t / k) (t % k) (by simpa using hd) hm
    rw [Nat.mul_comm, Nat.div_add_mod] at e2
    rw [e1, e2]
    have e3 : d[t / k]! = d.toList[t / k]'(by simpa using hd) := by
      rw [getElem!_pos d (t / k) hd]; simp
    rw [e3]
    have e4 : t % k < (enc (d.toList[t / k]'(by simpa using hd))).length := by rw [hk]; exact hm
    rw [List.getElem?_eq_getElem e4, getElem!_pos (enc (d.toList[t / k]'(by simpa using hd))) _ e4]
  · rw [List.getElem?_eq_none (by simp; omega), List.getElem?_eq_none (by rw [hl]; simp; omega)]
theorem holds_of_own (hk : ∀ x, (enc x).length = k) {w : World} {E : TypeId} {g c : Nat} {xs : List α} (h : w.ownsRow 0 E k (.slice (some ⟨g, 0, none⟩) xs.length c) xs.length (xs.flatMap enc)) : HoldsK enc k w g 0 xs.toArray := by
  intro j hj
  rw [size_flatK] at hj
  have hj' : j < xs.length * k := by simpa using hj
  have hl := flat_len hk xs
  have e1 : (flatK enc k xs.toArray)[j]! = (xs.flatMap enc)[j]'(by omega) := by
    rw [getElem!_pos (flatK enc k xs.toArray) j (by simpa using hj), ← Array.getElem_toList]
    simp only [flatK_toList hk]
  refine ⟨?_, by rw [Nat.zero_add]; exact h.frozenAt _⟩
  rw [Nat.zero_add, World.ownsRow.cellAt h j hj', e1, List.getElem?_eq_getElem (by omega)]
  rfl
theorem only_sorted (w : World) (g m : Nat) (d : Array α) (os : Array Obj) : Only (· = g) w (sortWorldK enc k w g 0 m d os) := by
  refine ⟨rfl, rfl, rfl, ?_, fun q hq hne => ?_⟩
  · show w.heap.size ≤ ((w.heap.modify g _) ++ os).size
    simp
  · show ((w.heap.modify g _) ++ os)[q]? = _
    rw [Array.getElem?_append_left (by simpa using hq), Array.getElem?_modify, if_neg (fun e => hne e.symm)]
theorem own_sorted (hk : ∀ x, (enc x).length = k) {w : World} {E : TypeId} {g c : Nat} {xs : List α} (h : w.ownsRow 0 E k (.slice (some ⟨g, 0, none⟩) xs.length c) xs.length (xs.flatMap enc)) (m : Nat) (d : Array α) (hd : d.size = xs.length) (os : Array Obj) :
    (sortWorldK enc k w g 0 m d os).ownsRow 0 E k (.slice (some ⟨g, 0, none⟩) d.toList.length c) d.toList.length (d.toList.flatMap enc) := by
  have hlt := (h.lt g rfl).2
  obtain ⟨hl, h0 | ⟨g', cap, cur, e, _, hg, h1, h2, h3, h4⟩⟩ := h
  · cases h0.1
  · injection e with e1 e2 e3
    injection e1 with e1
    injection e1 with e1
    subst e1; subst e3
    have hdl : d.toList.length = xs.length := by simpa using hd
    refine ⟨flat_len hk _, Or.inr ⟨g, c, putCells id 0 (flatK enc k d) cur, rfl, Nat.zero_le _, ?_, by omega, h2, by simpa [putCells] using h3, ?_⟩⟩
    · show ((w.heap.modify g _) ++ os)[g]? = _
      rw [Array.getElem?_append_left (by simpa using hlt), Array.getElem?_modify, if_pos rfl, hg]
      rfl
    · rw [hdl]
      have hsz : xs.length * k ≤ cur.size := by rw [h3]; exact Nat.mul_le_mul_right k h1
      apply List.ext_getElem?
      intro t
      have hfl := flat_len hk d.toList
      rw [hdl] at hfl
      by_cases ht : t < xs.length * k
      · rw [List.getElem?_take, if_pos ht, Array.getElem?_toList]
        unfold putCells
        rw [Array.getElem?_mapIdx, Array.getElem?_eq_getElem (by omega)]
        simp only [Option.map_some]
        have hts : t < (flatK enc k d).size := by rw [size_flatK, hd]; exact ht
        rw [if_pos ⟨Nat.zero_le _, by omega⟩, Nat.sub_zero, getElem!_pos (flatK enc k d) t hts, ← Array.getElem_toList]
        simp only [flatK_toList hk, id]
        rw [List.getElem?_eq_getElem]
      · rw [List.getElem?_take, if_neg ht, List.getElem?_eq_none (by omega)]
end

section
variable {α : Type} [Inhabited α] {enc : α → List Value} {k : Nat} {ρ : Ren} {G : Nat → Prop} {w0 w : World} {l : List Assn} {v : Value} {xs : List α}
/-- slices.SortFunc of a slice of the call's own -/
theorem sort_in (L : SlLaysF0.n6 Try.prog ρ) (aE : ∀ w, (isAgg (ρ.t 24)).run Try.prog w = .ok true w) (zE : ∀ w, (Go.sizeOf (ρ.t 24)).run Try.prog w = .ok k w) (hk : ∀ x, (enc x).length = k) (h1 : ∀ x, ∀ u ∈ enc x, u.oneCell' = true)
    (cf : α → α → Int) (hO : SWO (ltOf cf)) (g : Nat) (eg : ∀ args w, (callFunc g args).run Try.prog w = .ok (.enter g args) w) (hcmp : ∀ blk off size w, CmpLays Try.prog g #[] enc k cf blk off size w) (E : TypeId)
    (h : In G w0 (RowA E k v xs.length (xs.flatMap enc) :: l) w) (hl : xs.length ≤ 1099511627776) :
    Calls Try.prog (ρ.f 6) #[v, .func (.func g) #[] #[]] w fun e w' => e = .returned (.tuple #[]) ∧ ∃ ys : List α, ys.Perm xs ∧ ys.Pairwise (fun a b => decide (cf b a < 0) = false) ∧ In G w0 (RowA E k v ys.length (ys.flatMap enc) :: l) w' := by
  obtain ⟨F1, ⟨hA, hF⟩, _, hback⟩ := h.open_
  obtain ⟨A, c, rfl, hc1, hc2, hg⟩ := own_form hA
  by_cases h0 : xs.length = 0
  · have hx : xs = [] := List.eq_nil_of_length_eq_zero h0
    subst hx
    exact (AnyF.slices_SortFunc_none L A c (.func (.func g) #[] #[]) w).mono fun e w' ⟨he, hw⟩ => ⟨he, [], List.Perm.refl _, List.Pairwise.nil, by rw [hw]; exact h⟩
  · obtain ⟨b, rfl⟩ := hg (by omega)
    have hlt := (hA.lt b rfl).2
    have hcon := AnyQ.slices_SortFunc L k aE zE enc hk h1 cf hO g #[] b 0 c xs.toArray w eg (hcmp b 0 _ w) (holds_of_own hk hA) hlt (by simp; omega)
    refine hcon.mono ?_
    rintro e w' ⟨he, d', n, os, ⟨hs, _, hp⟩, hsorted, rfl⟩
    have hs' : d'.size = xs.length := by simpa using hs
    refine ⟨he, d'.toList, ?_, ?_, ?_⟩
    · have e1 : d'.extract 0 xs.toArray.size = d' := by rw [← hs]; exact Array.extract_size
      have e2 : xs.toArray.extract 0 xs.toArray.size = xs.toArray := Array.extract_size
      rw [e1, e2] at hp
      exact hp
    · rw [List.pairwise_iff_getElem]
      intro i j hi hj hij
      have := hsorted i j (Nat.zero_le _) hij (by rw [← hs]; simpa using hj)
      rw [getElem!_pos d' j (by simpa using hj), getElem!_pos d' i (by simpa using hi)] at this
      exact this
    · have hv : d'.toList.length = xs.length := by simpa using hs'
      refine hback (A' := RowA E k (.slice (some ⟨b, 0, none⟩) xs.length c) d'.toList.length (d'.toList.flatMap enc)) ⟨?_, fun q hq => Or.inl (hF q hq)⟩ ((only_sorted w b n d' os).mono fun q _ e => by subst e; exact hF _ rfl)
      have := own_sorted hk hA n d' hs' os
      rw [hv] at this ⊢
      exact this
end

end Go.Proofs.Ytpgdobomcdpdbaa
