/-
  Several texts in one (merged by a program of mine): SortOwn, SortLayHandle, SortLayBond, SortLayRow.
-/
import Derived.Test.YtjggdpnamakoeaaWP18
import Derived.Shelf.SlSortCmp.NoneTotal
/-
  slices.SortFunc at a slice of structs of the call's own, among other things in memory.
-/
namespace Go.Proofs.Ytjggdpnamakoeaa
open Go.RowKit Go.Shelf Go.Sort

section
variable {α : Type} [Inhabited α] {enc : α → List Value} {k : Nat}
theorem flatK_toList (hk : ∀ x, (enc x).length = k) (d : Array α) : (flatK enc k d).toList = d.toList.flatMap enc := by
  apply List.ext_getElem?
  intro t
  have hl := flat_len hk d.toList
  by_cases ht : t < d.size * k
  · have hk0 : 0 < k := by rcases Nat.eq_zero_or_pos k with h | h; subst h; simp at ht; exact h
    have hd : t / k < d.size := (Nat.div_lt_iff_lt_mul hk0).2 ht
    have hm := Nat.mod_lt t hk0
    have h1 := get_flatK enc k d t ht
    have e1 : (flatK enc k d).toList[t]? = some ((enc d[t / k]!)[t % k]!) := by
      rw [Array.getElem?_toList, Array.getElem?_eq_getElem (by simpa using ht), ← h1]
      rw [getElem!_pos (flatK enc k d) t (by simpa using ht)]
    have e2 := flat_get hk d.toList (t / k) (t % k) (by simpa using hd) hm
    rw [Nat.mul_comm, Nat.div_add_mod] at e2
    rw [e1, e2]
    have e3 : d[t / k]! = d.toList[t / k]'(by simpa using hd) := by
      rw [getElem!_pos d (t / k) hd]; simp
    rw [e3]
    have e4 : t % k < (enc (d.toList[t / k]'(by simpa using hd))).length := by rw [hk]; exact hm
    rw [List.getElem?_eq_getElem e4, getElem!_pos (enc (d.toList[t / k]'(by simpa using hd))) _ e4]
  · rw [List.getElem?_eq_none (by simp; omega), List.getElem?_eq_none (by rw [hl]; simp; omega)]
theorem holds_of_own (hk : ∀ x, (enc x).length = k) {w : World} {E : TypeId} {g c : Nat} {xs : List α} (h : w.ownsRow 0 E k (.slice (some ⟨g, 0, none⟩) xs.length c) xs.length (xs.flatMap enc)) : HoldsK enc k w g 0 xs.toArray := by
  intro j hj
  rw [size_flatK] at hj
  have hj' : j < xs.length * k := by simpa using hj
  have hl := flat_len hk xs
  have e1 : (flatK enc k xs.toArray)[j]! = (xs.flatMap enc)[j]'(by omega) := by
    rw [getElem!_pos (flatK enc k xs.toArray) j (by simpa using hj), ← Array.getElem_toList]
    simp only [flatK_toList hk]
  refine ⟨?_, by rw [Nat.zero_add]; exact h.frozenAt _⟩
  rw [Nat.zero_add, World.ownsRow.cellAt h j hj', e1, List.getElem?_eq_getElem (by omega)]
  rfl
theorem only_sorted (w : World) (g m : Nat) (d : Array α) (os : Array Obj) : Only (· = g) w (sortWorldK enc k w g 0 m d os) := by
  refine ⟨rfl, rfl, rfl, ?_, fun q hq hne => ?_⟩
  · show w.heap.size ≤ ((w.heap.modify g _) ++ os).size
    simp
  · show ((w.heap.modify g _) ++ os)[q]? = _
    rw [Array.getElem?_append_left (by simpa using hq), Array.getElem?_modify, if_neg (fun e => hne e.symm)]
theorem own_sorted (hk : ∀ x, (enc x).length = k) {w : World} {E : TypeId} {g c : Nat} {xs : List α} (h : w.ownsRow 0 E k (.slice (some ⟨g, 0, none⟩) xs.length c) xs.length (xs.flatMap enc)) (m : Nat) (d : Array α) (hd : d.size = xs.length) (os : Array Obj) :
    (sortWorldK enc k w g 0 m d os).ownsRow 0 E k (.slice (some ⟨g, 0, none⟩) d.toList.length c) d.toList.length (d.toList.flatMap enc) := by
  have hlt := (h.lt g rfl).2
  obtain ⟨hl, h0 | ⟨g', cap, cur, e, _, hg, h1, h2, h3, h4⟩⟩ := h
  · cases h0.1
  · injection e with e1 e2 e3
    injection e1 with e1
    injection e1 with e1
    subst e1; subst e3
    have hdl : d.toList.length = xs.length := by simpa using hd
    refine ⟨flat_len hk _, Or.inr ⟨g, c, putCells id 0 (flatK enc k d) cur, rfl, Nat.zero_le _, ?_, by omega, h2, by simpa [putCells] using h3, ?_⟩⟩
    · show ((w.heap.modify g _) ++ os)[g]? = _
      rw [Array.getElem?_append_left (by simpa using hlt), Array.getElem?_modify, if_pos rfl, hg]
      rfl
    · rw [hdl]
      have hsz : xs.length * k ≤ cur.size := by rw [h3]; exact Nat.mul_le_mul_right k h1
      apply List.ext_getElem?
      intro t
      have hfl := flat_len hk d.toList
      rw [hdl] at hfl
      by_cases ht : t < xs.length * k
      · rw [List.getElem?_take, if_pos ht, Array.getElem?_toList]
        unfold putCells
        rw [Array.getElem?_mapIdx, Array.getElem?_eq_getElem (by omega)]
        simp only [Option.map_some]
        have hts : t < (flatK enc k d).size := by rw [size_flatK, hd]; exact ht
        rw [if_pos ⟨Nat.zero_le _, by omega⟩, Nat.sub_zero, getElem!_pos (flatK enc k d) t hts, ← Array.getElem_toList]
        simp only [flatK_toList hk, id]
        rw [List.getElem?_eq_getElem]
      · rw [List.getElem?_take, if_neg ht, List.getElem?_eq_none (by omega)]
end

section
variable {α : Type} [Inhabited α] {enc : α → List Value} {k : Nat} {ρ : Ren} {G : Nat → Prop} {w0 w : World} {l : List Assn} {v : Value} {xs : List α}
/-- slices.SortFunc of a slice of the call's own -/
theorem sort_in (L : SlLaysF0.n6 Try.prog ρ) (aE : ∀ w, (isAgg (ρ.t 24)).run Try.prog w = .ok true w) (zE : ∀ w, (Go.sizeOf (ρ.t 24)).run Try.prog w = .ok k w) (hk : ∀ x, (enc x).length = k) (h1 : ∀ x, ∀ u ∈ enc x, u.oneCell' = true)
    (cf : α → α → Int) (hO : SWO (ltOf cf)) (g : Nat) (eg : ∀ args w, (callFunc g args).run Try.prog w = .ok (.enter g args) w) (hcmp : ∀ blk off size w, CmpLays Try.prog g #[] enc k cf blk off size w) (E : TypeId)
    (h : In G w0 (RowA E k v xs.length (xs.flatMap enc) :: l) w) (hl : xs.length ≤ 1099511627776) :
    Calls Try.prog (ρ.f 6) #[v, .func (.func g) #[] #[]] w fun e w' => e = .returned (.tuple #[]) ∧ ∃ ys : List α, ys.Perm xs ∧ ys.Pairwise (fun a b => decide (cf b a < 0) = false) ∧ In G w0 (RowA E k v ys.length (ys.flatMap enc) :: l) w' := by
  obtain ⟨F1, ⟨hA, hF⟩, _, hback⟩ := h.open_
  obtain ⟨A, c, rfl, hc1, hc2, hg⟩ := own_form hA
  by_cases h0 : xs.length = 0
  · have hx : xs = [] := List.eq_nil_of_length_eq_zero h0
    subst hx
    exact (AnyF.slices_SortFunc_none L A c (.func (.func g) #[] #[]) w).mono fun e w' ⟨he, hw⟩ => ⟨he, [], List.Perm.refl _, List.Pairwise.nil, by rw [hw]; exact h⟩
  · obtain ⟨b, rfl⟩ := hg (by omega)
    have hlt := (hA.lt b rfl).2
    have hcon := AnyQ.slices_SortFunc L k aE zE enc hk h1 cf hO g #[] b 0 c xs.toArray w eg (hcmp b 0 _ w) (holds_of_own hk hA) hlt (by simp; omega)
    refine hcon.mono ?_
    rintro e w' ⟨he, d', n, os, ⟨hs, _, hp⟩, hsorted, rfl⟩
    have hs' : d'.size = xs.length := by simpa using hs
    refine ⟨he, d'.toList, ?_, ?_, ?_⟩
    · have e1 : d'.extract 0 xs.toArray.size = d' := by rw [← hs]; exact Array.extract_size
      have e2 : xs.toArray.extract 0 xs.toArray.size = xs.toArray := Array.extract_size
      rw [e1, e2] at hp
      exact hp
    · rw [List.pairwise_iff_getElem]
      intro i j hi hj hij
      have := hsorted i j (Nat.zero_le _) hij (by rw [← hs]; simpa using hj)
      rw [getElem!_pos d' j (by simpa using hj), getElem!_pos d' i (by simpa using hi)] at this
      exact this
    · have hv : d'.toList.length = xs.length := by simpa using hs'
      refine hback (A' := RowA E k (.slice (some ⟨b, 0, none⟩) xs.length c) d'.toList.length (d'.toList.flatMap enc)) ⟨?_, fun q hq => Or.inl (hF q hq)⟩ ((only_sorted w b n d' os).mono fun q _ e => by subst e; exact hF _ rfl)
      have := own_sorted hk hA n d' hs' os
      rw [hv] at this ⊢
      exact this
end

end Go.Proofs.Ytjggdpnamakoeaa

/-
  slices.SortFunc at []api.Handle: its functions' and types' numbers (printed by wip/gen_sort.py).
-/
namespace Go.Proofs.Ytjggdpnamakoeaa
open Go.RowKit Go.Shelf


end Go.Proofs.Ytjggdpnamakoeaa

/-
  slices.SortFunc at []api.Bond: its functions' and types' numbers (printed by wip/gen_sort.py).
-/
namespace Go.Proofs.Ytjggdpnamakoeaa
open Go.RowKit Go.Shelf


end Go.Proofs.Ytjggdpnamakoeaa

/-
  slices.SortFunc at []api.Row: its functions' and types' numbers (printed by wip/gen_sort.py).
-/
namespace Go.Proofs.Ytjggdpnamakoeaa
open Go.RowKit Go.Shelf

def sortRow_ren : Ren := ⟨fun | 6 => 38 | 14 => 55 | 15 => 56 | 28 => 77 | 29 => 78 | 20 => 69 | 21 => 70 | 22 => 71 | 23 => 72 | 24 => 73 | 25 => 74 | 26 => 75 | 27 => 76 | 46 => 82 | 47 => 83 | 48 => 84 | 49 => 85 | 50 => 86 | 57 => 87 | n => n, fun | 22 => 28 | 24 => 37 | 25 => 90 | 3 => 3 | 39 => 120 | 0 => 0 | 53 => 139 | 55 => 141 | 4 => 4 | 46 => 132 | 45 => 131 | 50 => 136 | 5 => 5 | 9 => 9 | 66 => 146 | 70 => 150 | 76 => 152 | 77 => 153 | n => n, fun n => n⟩
theorem sortRow_lay : SlLaysF0.n6 Try.prog sortRow_ren := {
  mixed := by kernel_rfl,
  f6 := ⟨Try.f38.name, by decide, Try.func38.trans (congrArg some (by kernel_rfl))⟩,
  f14 := ⟨Try.f55.name, by decide, Try.func55.trans (congrArg some (by kernel_rfl))⟩,
  f15 := Try.func56.trans (congrArg some (by kernel_rfl)),
  f20 := ⟨Try.f69.name, by decide, Try.func69.trans (congrArg some (by kernel_rfl))⟩,
  f21 := ⟨Try.f70.name, by decide, Try.func70.trans (congrArg some (by kernel_rfl))⟩,
  f22 := ⟨Try.f71.name, by decide, Try.func71.trans (congrArg some (by kernel_rfl))⟩,
  f23 := ⟨Try.f72.name, by decide, Try.func72.trans (congrArg some (by kernel_rfl))⟩,
  f24 := ⟨Try.f73.name, by decide, Try.func73.trans (congrArg some (by kernel_rfl))⟩,
  f25 := ⟨Try.f74.name, by decide, Try.func74.trans (congrArg some (by kernel_rfl))⟩,
  f26 := ⟨Try.f75.name, by decide, Try.func75.trans (congrArg some (by kernel_rfl))⟩,
  f27 := ⟨Try.f76.name, by decide, Try.func76.trans (congrArg some (by kernel_rfl))⟩,
  f28 := Try.func77.trans (congrArg some (by kernel_rfl)),
  f29 := Try.func78.trans (congrArg some (by kernel_rfl)),
  f46 := ⟨Try.f82.name, by decide, Try.func82.trans (congrArg some (by kernel_rfl))⟩,
  f47 := Try.func83.trans (congrArg some (by kernel_rfl)),
  f48 := Try.func84.trans (congrArg some (by kernel_rfl)),
  f49 := ⟨Try.f85.name, by decide, Try.func85.trans (congrArg some (by kernel_rfl))⟩,
  f50 := ⟨Try.f86.name, by decide, Try.func86.trans (congrArg some (by kernel_rfl))⟩,
  f57 := ⟨Try.f87.name, by decide, Try.func87.trans (congrArg some (by kernel_rfl))⟩,
  t0 := Try.underlying0,
  a0 := Try.isAgg0,
  z0 := Try.sizeOf0,
  v0 := Try.zeroValue0,
  t3 := Try.underlying3,
  a3 := Try.isAgg3,
  z3 := Try.sizeOf3,
  v3 := Try.zeroValue3,
  t4 := Try.underlying4,
  a4 := Try.isAgg4,
  z4 := Try.sizeOf4,
  v4 := Try.zeroValue4,
  t5 := Try.underlying5,
  a5 := Try.isAgg5,
  z5 := Try.sizeOf5,
  v5 := Try.zeroValue5,
  t9 := Try.underlying9,
  a9 := Try.isAgg9,
  z9 := Try.sizeOf9,
  v9 := Try.zeroValue9,
  t22 := Try.underlying28,
  a22 := Try.isAgg28,
  z22 := Try.sizeOf28,
  v22 := Try.zeroValue28,
  t25 := Try.underlying90,
  a25 := Try.isAgg90,
  z25 := Try.sizeOf90,
  v25 := Try.zeroValue90,
  t39 := Try.underlying120,
  a39 := Try.isAgg120,
  z39 := Try.sizeOf120,
  v39 := Try.zeroValue120,
  t45 := Try.underlying131,
  a45 := Try.isAgg131,
  z45 := Try.sizeOf131,
  v45 := Try.zeroValue131,
  t46 := Try.underlying132,
  a46 := Try.isAgg132,
  z46 := Try.sizeOf132,
  v46 := Try.zeroValue132,
  t50 := Try.underlying136,
  a50 := Try.isAgg136,
  z50 := Try.sizeOf136,
  v50 := Try.zeroValue136,
  t53 := Try.underlying139,
  a53 := Try.isAgg139,
  z53 := Try.sizeOf139,
  v53 := Try.zeroValue139,
  t55 := Try.underlying141,
  a55 := Try.isAgg141,
  z55 := Try.sizeOf141,
  v55 := Try.zeroValue141,
  t66 := Try.underlying146,
  a66 := Try.isAgg146,
  z66 := Try.sizeOf146,
  v66 := Try.zeroValue146,
  t70 := Try.underlying150,
  a70 := Try.isAgg150,
  z70 := Try.sizeOf150,
  v70 := Try.zeroValue150,
  t76 := Try.underlying152,
  a76 := Try.isAgg152,
  z76 := Try.sizeOf152,
  v76 := Try.zeroValue152,
  t77 := Try.underlying153,
  a77 := Try.isAgg153,
  z77 := Try.sizeOf153,
  v77 := Try.zeroValue153 }

end Go.Proofs.Ytjggdpnamakoeaa
