/-
  Several texts in one (merged by a program of mine): SortOwn, SortLayHandle, SortLayBond, SortLayRow.
-/
import Derived.Test.YtpgcghnlepnoiaaGreatDoorTP17
import Derived.Shelf.SlSortCmp.NoneTotal
set_option linter.unusedVariables false
set_option linter.unusedSimpArgs false
set_option linter.unusedSectionVars false
/-
  slices.SortFunc at a slice of structs of the call's own, among other things in memory.
-/
namespace Go.Proofs.YtpgcghnlepnoiaaGreatDoor
open Go.RowKit Go.Shelf Go.Sort

section
variable {α : Type} [Inhabited α] {enc : α → List Value} {k : Nat}
theorem flatK_toList (hk : ∀ x, (enc x).length = k) (d : Array α) : (flatK enc k d).toList = d.toList.flatMap enc := by
  apply List.ext_getElem?
  intro t
  have hl := flat_len hk d.toList
  by_cases ht : t < d.size * k
  · have hk0 : 0 < k := by rcases Nat.eq_zero_or_pos k with h | h; subst h; simp at ht; exact h
    have hd : t / k < d.size := (Nat.div_lt_iff_lt_mul hk0).2 ht
    have hm := Nat.mod_lt t hk0
    have h1 := get_flatK enc k d t ht
    have e1 : (flatK enc k d).toList[t]? = some ((enc d[t / k]!)[t % k]!) := by
      rw [Array.getElem?_toList, Array.getElem?_eq_getElem (by simpa using ht), ← h1]
      rw [getElem!_pos (flatK enc k d) t (by simpa using ht)]
    have e2 := flat_get hk d.toList (t / k) (t % k) (by simpa using hd) hm
    rw [Nat.mul_comm, Nat.div_add_mod] at e2
    rw [e1, e2]
    have e3 : d[t / k]! = d.toList[t / k]'(by simpa using hd) := by
      rw [getElem!_pos d (t / k) hd]; simp
    rw [e3]
    have e4 : t % k < (enc (d.toList[t / k]'(by simpa using hd))).length := by rw [hk]; exact hm
    rw [List.getElem?_eq_getElem e4, getElem!_pos (enc (d.toList[t / k]'(by simpa using hd))) _ e4]
  · rw [List.getElem?_eq_none (by simp; omega), List.getElem?_eq_none (by rw [hl]; simp; omega)]
theorem holds_of_own (hk : ∀ x, (enc x).length = k) {w : World} {E : TypeId} {g c : Nat} {xs : List α} (h : w.ownsRow 0 E k (.slice (some ⟨g, 0, none⟩) xs.length c) xs.length (xs.flatMap enc)) : HoldsK enc k w g 0 xs.toArray := by
  intro j hj
  rw [size_flatK] at hj
  have hj' : j < xs.length * k := by simpa using hj
  have hl := flat_len hk xs
  have e1 : (flatK enc k xs.toArray)[j]! = (xs.flatMap enc)[j]'(by omega) := by
    rw [getElem!_pos (flatK enc k xs.toArray) j (by simpa using hj), ← Array.getElem_toList]
    simp only [flatK_toList hk]
  refine ⟨?_, by rw [Nat.zero_add]; exact h.frozenAt _⟩
  rw [Nat.zero_add, World.ownsRow.cellAt h j hj', e1, List.getElem?_eq_getElem (by omega)]
  rfl
theorem only_sorted (w : World) (g m : Nat) (d : Array α) (os : Array Obj) : Only (· = g) w (sortWorldK enc k w g 0 m d os) := by
  refine ⟨rfl, rfl, rfl, ?_, fun q hq hne => ?_⟩
  · show w.heap.size ≤ ((w.heap.modify g _) ++ os).size
    simp
  · show ((w.heap.modify g _) ++ os)[q]? = _
    rw [Array.getElem?_append_left (by simpa using hq), Array.getElem?_modify, if_neg (fun e => hne e.symm)]
theorem own_sorted (hk : ∀ x, (enc x).length = k) {w : World} {E : TypeId} {g c : Nat} {xs : List α} (h : w.ownsRow 0 E k (.slice (some ⟨g, 0, none⟩) xs.length c) xs.length (xs.flatMap enc)) (m : Nat) (d : Array α) (hd : d.size = xs.length) (os : Array Obj) :
    (sortWorldK enc k w g 0 m d os).ownsRow 0 E k (.slice (some ⟨g, 0, none⟩) d.toList.length c) d.toList.length (d.toList.flatMap enc) := by
  have hlt := (h.lt g rfl).2
  obtain ⟨hl, h0 | ⟨g', cap, cur, e, _, hg, h1, h2, h3, h4⟩⟩ := h
  · cases h0.1
  · injection e with e1 e2 e3
    injection e1 with e1
    injection e1 with e1
    subst e1; subst e3
    have hdl : d.toList.length = xs.length := by simpa using hd
    refine ⟨flat_len hk _, Or.inr ⟨g, c, putCells id 0 (flatK enc k d) cur, rfl, Nat.zero_le _, ?_, by omega, h2, by simpa [putCells] using h3, ?_⟩⟩
    · show ((w.heap.modify g _) ++ os)[g]? = _
      rw [Array.getElem?_append_left (by simpa using hlt), Array.getElem?_modify, if_pos rfl, hg]
      rfl
    · rw [hdl]
      have hsz : xs.length * k ≤ cur.size := by rw [h3]; exact Nat.mul_le_mul_right k h1
      apply List.ext_getElem?
      intro t
      have hfl := flat_len hk d.toList
      rw [hdl] at hfl
      by_cases ht : t < xs.length * k
      · rw [List.getElem?_take, if_pos ht, Array.getElem?_toList]
        unfold putCells
        rw [Array.getElem?_mapIdx, Array.getElem?_eq_getElem (by omega)]
        simp only [Option.map_some]
        have hts : t < (flatK enc k d).size := by rw [size_flatK, hd]; exact ht
        rw [if_pos ⟨Nat.zero_le _, by omega⟩, Nat.sub_zero, getElem!_pos (flatK enc k d) t hts, ← Array.getElem_toList]
        simp only [flatK_toList hk, id]
        rw [List.getElem?_eq_getElem]
      · rw [List.getElem?_take, if_neg ht, List.getElem?_eq_none (by omega)]
end

section
variable {α : Type} [Inhabited α] {enc : α → List Value} {k : Nat} {ρ : Ren} {G : Nat → Prop} {w0 w : World} {l : List Assn} {v : Value} {xs : List α}
/-- slices.SortFunc of a slice of the call's own -/
theorem sort_in (L : SlLaysF0.n6 Tryz.prog ρ) (aE : ∀ w, (isAgg (ρ.t 24)).run Tryz.prog w = .ok true w) (zE : ∀ w, (Go.sizeOf (ρ.t 24)).run Tryz.prog w = .ok k w) (hk : ∀ x, (enc x).length = k) (h1 : ∀ x, ∀ u ∈ enc x, u.oneCell' = true)
    (cf : α → α → Int) (hO : SWO (ltOf cf)) (g : Nat) (eg : ∀ args w, (callFunc g args).run Tryz.prog w = .ok (.enter g args) w) (hcmp : ∀ blk off size w, CmpLays Tryz.prog g #[] enc k cf blk off size w) (E : TypeId)
    (h : In G w0 (RowA E k v xs.length (xs.flatMap enc) :: l) w) (hl : xs.length ≤ 1099511627776) :
    Calls Tryz.prog (ρ.f 6) #[v, .func (.func g) #[] #[]] w fun e w' => e = .returned (.tuple #[]) ∧ ∃ ys : List α, ys.Perm xs ∧ ys.Pairwise (fun a b => decide (cf b a < 0) = false) ∧ In G w0 (RowA E k v ys.length (ys.flatMap enc) :: l) w' := by
  obtain ⟨F1, ⟨hA, hF⟩, _, hback⟩ := h.open_
  obtain ⟨A, c, rfl, hc1, hc2, hg⟩ := own_form hA
  by_cases h0 : xs.length = 0
  · have hx : xs = [] := List.eq_nil_of_length_eq_zero h0
    subst hx
    exact (AnyF.slices_SortFunc_none L A c (.func (.func g) #[] #[]) w).mono fun e w' ⟨he, hw⟩ => ⟨he, [], List.Perm.refl _, List.Pairwise.nil, by rw [hw]; exact h⟩
  · obtain ⟨b, rfl⟩ := hg (by omega)
    have hlt := (hA.lt b rfl).2
    have hcon := AnyQ.slices_SortFunc L k aE zE enc hk h1 cf hO g #[] b 0 c xs.toArray w eg (hcmp b 0 _ w) (holds_of_own hk hA) hlt (by simp; omega)
    refine hcon.mono ?_
    rintro e w' ⟨he, d', n, os, ⟨hs, _, hp⟩, hsorted, rfl⟩
    have hs' : d'.size = xs.length := by simpa using hs
    refine ⟨he, d'.toList, ?_, ?_, ?_⟩
    · have e1 : d'.extract 0 xs.toArray.size = d' := by rw [← hs]; exact Array.extract_size
      have e2 : xs.toArray.extract 0 xs.toArray.size = xs.toArray := Array.extract_size
      rw [e1, e2] at hp
      exact hp
    · rw [List.pairwise_iff_getElem]
      intro i j hi hj hij
      have := hsorted i j (Nat.zero_le _) hij (by rw [← hs]; simpa using hj)
      rw [getElem!_pos d' j (by simpa using hj), getElem!_pos d' i (by simpa using hi)] at this
      exact this
    · have hv : d'.toList.length = xs.length := by simpa using hs'
      refine hback (A' := RowA E k (.slice (some ⟨b, 0, none⟩) xs.length c) d'.toList.length (d'.toList.flatMap enc)) ⟨?_, fun q hq => Or.inl (hF q hq)⟩ ((only_sorted w b n d' os).mono fun q _ e => by subst e; exact hF _ rfl)
      have := own_sorted hk hA n d' hs' os
      rw [hv] at this ⊢
      exact this
end

end Go.Proofs.YtpgcghnlepnoiaaGreatDoor

/-
  slices.SortFunc at []api.Handle: its functions' and types' numbers (printed by wip/gen_sort.py).
-/
namespace Go.Proofs.YtpgcghnlepnoiaaGreatDoor
open Go.RowKit Go.Shelf

def sortHandle_ren : Ren := ⟨fun | 6 => 165 | 14 => 182 | 15 => 105 | 28 => 141 | 29 => 142 | 20 => 187 | 21 => 188 | 22 => 189 | 23 => 190 | 24 => 191 | 25 => 192 | 26 => 193 | 27 => 194 | 46 => 195 | 47 => 169 | 48 => 170 | 49 => 196 | 50 => 197 | 57 => 198 | n => n, fun | 22 => 119 | 24 => 46 | 25 => 106 | 3 => 3 | 39 => 164 | 0 => 0 | 53 => 203 | 55 => 195 | 4 => 4 | 46 => 214 | 45 => 213 | 50 => 218 | 5 => 5 | 9 => 9 | 66 => 243 | 70 => 247 | 76 => 259 | 77 => 260 | n => n, fun n => n⟩
theorem sortHandle_lay : SlLaysF0.n6 Tryz.prog sortHandle_ren := {
  mixed := by kernel_rfl,
  f6 := ⟨Tryz.f165.name, by decide, Tryz.func165.trans (congrArg some (by kernel_rfl))⟩,
  f14 := ⟨Tryz.f182.name, by decide, Tryz.func182.trans (congrArg some (by kernel_rfl))⟩,
  f15 := Tryz.func105.trans (congrArg some (by kernel_rfl)),
  f20 := ⟨Tryz.f187.name, by decide, Tryz.func187.trans (congrArg some (by kernel_rfl))⟩,
  f21 := ⟨Tryz.f188.name, by decide, Tryz.func188.trans (congrArg some (by kernel_rfl))⟩,
  f22 := ⟨Tryz.f189.name, by decide, Tryz.func189.trans (congrArg some (by kernel_rfl))⟩,
  f23 := ⟨Tryz.f190.name, by decide, Tryz.func190.trans (congrArg some (by kernel_rfl))⟩,
  f24 := ⟨Tryz.f191.name, by decide, Tryz.func191.trans (congrArg some (by kernel_rfl))⟩,
  f25 := ⟨Tryz.f192.name, by decide, Tryz.func192.trans (congrArg some (by kernel_rfl))⟩,
  f26 := ⟨Tryz.f193.name, by decide, Tryz.func193.trans (congrArg some (by kernel_rfl))⟩,
  f27 := ⟨Tryz.f194.name, by decide, Tryz.func194.trans (congrArg some (by kernel_rfl))⟩,
  f28 := Tryz.func141.trans (congrArg some (by kernel_rfl)),
  f29 := Tryz.func142.trans (congrArg some (by kernel_rfl)),
  f46 := ⟨Tryz.f195.name, by decide, Tryz.func195.trans (congrArg some (by kernel_rfl))⟩,
  f47 := Tryz.func169.trans (congrArg some (by kernel_rfl)),
  f48 := Tryz.func170.trans (congrArg some (by kernel_rfl)),
  f49 := ⟨Tryz.f196.name, by decide, Tryz.func196.trans (congrArg some (by kernel_rfl))⟩,
  f50 := ⟨Tryz.f197.name, by decide, Tryz.func197.trans (congrArg some (by kernel_rfl))⟩,
  f57 := ⟨Tryz.f198.name, by decide, Tryz.func198.trans (congrArg some (by kernel_rfl))⟩,
  t0 := Tryz.underlying0,
  a0 := Tryz.isAgg0,
  z0 := Tryz.sizeOf0,
  v0 := Tryz.zeroValue0,
  t3 := Tryz.underlying3,
  a3 := Tryz.isAgg3,
  z3 := Tryz.sizeOf3,
  v3 := Tryz.zeroValue3,
  t4 := Tryz.underlying4,
  a4 := Tryz.isAgg4,
  z4 := Tryz.sizeOf4,
  v4 := Tryz.zeroValue4,
  t5 := Tryz.underlying5,
  a5 := Tryz.isAgg5,
  z5 := Tryz.sizeOf5,
  v5 := Tryz.zeroValue5,
  t9 := Tryz.underlying9,
  a9 := Tryz.isAgg9,
  z9 := Tryz.sizeOf9,
  v9 := Tryz.zeroValue9,
  t22 := Tryz.underlying119,
  a22 := Tryz.isAgg119,
  z22 := Tryz.sizeOf119,
  v22 := Tryz.zeroValue119,
  t25 := Tryz.underlying106,
  a25 := Tryz.isAgg106,
  z25 := Tryz.sizeOf106,
  v25 := Tryz.zeroValue106,
  t39 := Tryz.underlying164,
  a39 := Tryz.isAgg164,
  z39 := Tryz.sizeOf164,
  v39 := Tryz.zeroValue164,
  t45 := Tryz.underlying213,
  a45 := Tryz.isAgg213,
  z45 := Tryz.sizeOf213,
  v45 := Tryz.zeroValue213,
  t46 := Tryz.underlying214,
  a46 := Tryz.isAgg214,
  z46 := Tryz.sizeOf214,
  v46 := Tryz.zeroValue214,
  t50 := Tryz.underlying218,
  a50 := Tryz.isAgg218,
  z50 := Tryz.sizeOf218,
  v50 := Tryz.zeroValue218,
  t53 := Tryz.underlying203,
  a53 := Tryz.isAgg203,
  z53 := Tryz.sizeOf203,
  v53 := Tryz.zeroValue203,
  t55 := Tryz.underlying195,
  a55 := Tryz.isAgg195,
  z55 := Tryz.sizeOf195,
  v55 := Tryz.zeroValue195,
  t66 := Tryz.underlying243,
  a66 := Tryz.isAgg243,
  z66 := Tryz.sizeOf243,
  v66 := Tryz.zeroValue243,
  t70 := Tryz.underlying247,
  a70 := Tryz.isAgg247,
  z70 := Tryz.sizeOf247,
  v70 := Tryz.zeroValue247,
  t76 := Tryz.underlying259,
  a76 := Tryz.isAgg259,
  z76 := Tryz.sizeOf259,
  v76 := Tryz.zeroValue259,
  t77 := Tryz.underlying260,
  a77 := Tryz.isAgg260,
  z77 := Tryz.sizeOf260,
  v77 := Tryz.zeroValue260 }

end Go.Proofs.YtpgcghnlepnoiaaGreatDoor

/-
  slices.SortFunc at []api.Bond: its functions' and types' numbers (printed by wip/gen_sort.py).
-/
namespace Go.Proofs.YtpgcghnlepnoiaaGreatDoor
open Go.RowKit Go.Shelf

def sortBond_ren : Ren := ⟨fun | 6 => 70 | 14 => 107 | 15 => 105 | 28 => 141 | 29 => 142 | 20 => 143 | 21 => 144 | 22 => 145 | 23 => 146 | 24 => 147 | 25 => 148 | 26 => 149 | 27 => 150 | 46 => 173 | 47 => 169 | 48 => 170 | 49 => 174 | 50 => 175 | 57 => 184 | n => n, fun | 22 => 24 | 24 => 56 | 25 => 57 | 3 => 3 | 39 => 164 | 0 => 0 | 53 => 203 | 55 => 195 | 4 => 4 | 46 => 214 | 45 => 213 | 50 => 218 | 5 => 5 | 9 => 9 | 66 => 243 | 70 => 247 | 76 => 259 | 77 => 260 | n => n, fun n => n⟩
theorem sortBond_lay : SlLaysF0.n6 Tryz.prog sortBond_ren := {
  mixed := by kernel_rfl,
  f6 := ⟨Tryz.f70.name, by decide, Tryz.func70.trans (congrArg some (by kernel_rfl))⟩,
  f14 := ⟨Tryz.f107.name, by decide, Tryz.func107.trans (congrArg some (by kernel_rfl))⟩,
  f15 := Tryz.func105.trans (congrArg some (by kernel_rfl)),
  f20 := ⟨Tryz.f143.name, by decide, Tryz.func143.trans (congrArg some (by kernel_rfl))⟩,
  f21 := ⟨Tryz.f144.name, by decide, Tryz.func144.trans (congrArg some (by kernel_rfl))⟩,
  f22 := ⟨Tryz.f145.name, by decide, Tryz.func145.trans (congrArg some (by kernel_rfl))⟩,
  f23 := ⟨Tryz.f146.name, by decide, Tryz.func146.trans (congrArg some (by kernel_rfl))⟩,
  f24 := ⟨Tryz.f147.name, by decide, Tryz.func147.trans (congrArg some (by kernel_rfl))⟩,
  f25 := ⟨Tryz.f148.name, by decide, Tryz.func148.trans (congrArg some (by kernel_rfl))⟩,
  f26 := ⟨Tryz.f149.name, by decide, Tryz.func149.trans (congrArg some (by kernel_rfl))⟩,
  f27 := ⟨Tryz.f150.name, by decide, Tryz.func150.trans (congrArg some (by kernel_rfl))⟩,
  f28 := Tryz.func141.trans (congrArg some (by kernel_rfl)),
  f29 := Tryz.func142.trans (congrArg some (by kernel_rfl)),
  f46 := ⟨Tryz.f173.name, by decide, Tryz.func173.trans (congrArg some (by kernel_rfl))⟩,
  f47 := Tryz.func169.trans (congrArg some (by kernel_rfl)),
  f48 := Tryz.func170.trans (congrArg some (by kernel_rfl)),
  f49 := ⟨Tryz.f174.name, by decide, Tryz.func174.trans (congrArg some (by kernel_rfl))⟩,
  f50 := ⟨Tryz.f175.name, by decide, Tryz.func175.trans (congrArg some (by kernel_rfl))⟩,
  f57 := ⟨Tryz.f184.name, by decide, Tryz.func184.trans (congrArg some (by kernel_rfl))⟩,
  t0 := Tryz.underlying0,
  a0 := Tryz.isAgg0,
  z0 := Tryz.sizeOf0,
  v0 := Tryz.zeroValue0,
  t3 := Tryz.underlying3,
  a3 := Tryz.isAgg3,
  z3 := Tryz.sizeOf3,
  v3 := Tryz.zeroValue3,
  t4 := Tryz.underlying4,
  a4 := Tryz.isAgg4,
  z4 := Tryz.sizeOf4,
  v4 := Tryz.zeroValue4,
  t5 := Tryz.underlying5,
  a5 := Tryz.isAgg5,
  z5 := Tryz.sizeOf5,
  v5 := Tryz.zeroValue5,
  t9 := Tryz.underlying9,
  a9 := Tryz.isAgg9,
  z9 := Tryz.sizeOf9,
  v9 := Tryz.zeroValue9,
  t22 := Tryz.underlying24,
  a22 := Tryz.isAgg24,
  z22 := Tryz.sizeOf24,
  v22 := Tryz.zeroValue24,
  t25 := Tryz.underlying57,
  a25 := Tryz.isAgg57,
  z25 := Tryz.sizeOf57,
  v25 := Tryz.zeroValue57,
  t39 := Tryz.underlying164,
  a39 := Tryz.isAgg164,
  z39 := Tryz.sizeOf164,
  v39 := Tryz.zeroValue164,
  t45 := Tryz.underlying213,
  a45 := Tryz.isAgg213,
  z45 := Tryz.sizeOf213,
  v45 := Tryz.zeroValue213,
  t46 := Tryz.underlying214,
  a46 := Tryz.isAgg214,
  z46 := Tryz.sizeOf214,
  v46 := Tryz.zeroValue214,
  t50 := Tryz.underlying218,
  a50 := Tryz.isAgg218,
  z50 := Tryz.sizeOf218,
  v50 := Tryz.zeroValue218,
  t53 := Tryz.underlying203,
  a53 := Tryz.isAgg203,
  z53 := Tryz.sizeOf203,
  v53 := Tryz.zeroValue203,
  t55 := Tryz.underlying195,
  a55 := Tryz.isAgg195,
  z55 := Tryz.sizeOf195,
  v55 := Tryz.zeroValue195,
  t66 := Tryz.underlying243,
  a66 := Tryz.isAgg243,
  z66 := Tryz.sizeOf243,
  v66 := Tryz.zeroValue243,
  t70 := Tryz.underlying247,
  a70 := Tryz.isAgg247,
  z70 := Tryz.sizeOf247,
  v70 := Tryz.zeroValue247,
  t76 := Tryz.underlying259,
  a76 := Tryz.isAgg259,
  z76 := Tryz.sizeOf259,
  v76 := Tryz.zeroValue259,
  t77 := Tryz.underlying260,
  a77 := Tryz.isAgg260,
  z77 := Tryz.sizeOf260,
  v77 := Tryz.zeroValue260 }

end Go.Proofs.YtpgcghnlepnoiaaGreatDoor

/-
  slices.SortFunc at []api.Row: its functions' and types' numbers (printed by wip/gen_sort.py).
-/
namespace Go.Proofs.YtpgcghnlepnoiaaGreatDoor
open Go.RowKit Go.Shelf

def sortRow_ren : Ren := ⟨fun | 6 => 67 | 14 => 104 | 15 => 105 | 28 => 141 | 29 => 142 | 20 => 133 | 21 => 134 | 22 => 135 | 23 => 136 | 24 => 137 | 25 => 138 | 26 => 139 | 27 => 140 | 46 => 168 | 47 => 169 | 48 => 170 | 49 => 171 | 50 => 172 | 57 => 183 | n => n, fun | 22 => 23 | 24 => 51 | 25 => 53 | 3 => 3 | 39 => 164 | 0 => 0 | 53 => 203 | 55 => 195 | 4 => 4 | 46 => 214 | 45 => 213 | 50 => 218 | 5 => 5 | 9 => 9 | 66 => 243 | 70 => 247 | 76 => 259 | 77 => 260 | n => n, fun n => n⟩
theorem sortRow_lay : SlLaysF0.n6 Tryz.prog sortRow_ren := {
  mixed := by kernel_rfl,
  f6 := ⟨Tryz.f67.name, by decide, Tryz.func67.trans (congrArg some (by kernel_rfl))⟩,
  f14 := ⟨Tryz.f104.name, by decide, Tryz.func104.trans (congrArg some (by kernel_rfl))⟩,
  f15 := Tryz.func105.trans (congrArg some (by kernel_rfl)),
  f20 := ⟨Tryz.f133.name, by decide, Tryz.func133.trans (congrArg some (by kernel_rfl))⟩,
  f21 := ⟨Tryz.f134.name, by decide, Tryz.func134.trans (congrArg some (by kernel_rfl))⟩,
  f22 := ⟨Tryz.f135.name, by decide, Tryz.func135.trans (congrArg some (by kernel_rfl))⟩,
  f23 := ⟨Tryz.f136.name, by decide, Tryz.func136.trans (congrArg some (by kernel_rfl))⟩,
  f24 := ⟨Tryz.f137.name, by decide, Tryz.func137.trans (congrArg some (by kernel_rfl))⟩,
  f25 := ⟨Tryz.f138.name, by decide, Tryz.func138.trans (congrArg some (by kernel_rfl))⟩,
  f26 := ⟨Tryz.f139.name, by decide, Tryz.func139.trans (congrArg some (by kernel_rfl))⟩,
  f27 := ⟨Tryz.f140.name, by decide, Tryz.func140.trans (congrArg some (by kernel_rfl))⟩,
  f28 := Tryz.func141.trans (congrArg some (by kernel_rfl)),
  f29 := Tryz.func142.trans (congrArg some (by kernel_rfl)),
  f46 := ⟨Tryz.f168.name, by decide, Tryz.func168.trans (congrArg some (by kernel_rfl))⟩,
  f47 := Tryz.func169.trans (congrArg some (by kernel_rfl)),
  f48 := Tryz.func170.trans (congrArg some (by kernel_rfl)),
  f49 := ⟨Tryz.f171.name, by decide, Tryz.func171.trans (congrArg some (by kernel_rfl))⟩,
  f50 := ⟨Tryz.f172.name, by decide, Tryz.func172.trans (congrArg some (by kernel_rfl))⟩,
  f57 := ⟨Tryz.f183.name, by decide, Tryz.func183.trans (congrArg some (by kernel_rfl))⟩,
  t0 := Tryz.underlying0,
  a0 := Tryz.isAgg0,
  z0 := Tryz.sizeOf0,
  v0 := Tryz.zeroValue0,
  t3 := Tryz.underlying3,
  a3 := Tryz.isAgg3,
  z3 := Tryz.sizeOf3,
  v3 := Tryz.zeroValue3,
  t4 := Tryz.underlying4,
  a4 := Tryz.isAgg4,
  z4 := Tryz.sizeOf4,
  v4 := Tryz.zeroValue4,
  t5 := Tryz.underlying5,
  a5 := Tryz.isAgg5,
  z5 := Tryz.sizeOf5,
  v5 := Tryz.zeroValue5,
  t9 := Tryz.underlying9,
  a9 := Tryz.isAgg9,
  z9 := Tryz.sizeOf9,
  v9 := Tryz.zeroValue9,
  t22 := Tryz.underlying23,
  a22 := Tryz.isAgg23,
  z22 := Tryz.sizeOf23,
  v22 := Tryz.zeroValue23,
  t25 := Tryz.underlying53,
  a25 := Tryz.isAgg53,
  z25 := Tryz.sizeOf53,
  v25 := Tryz.zeroValue53,
  t39 := Tryz.underlying164,
  a39 := Tryz.isAgg164,
  z39 := Tryz.sizeOf164,
  v39 := Tryz.zeroValue164,
  t45 := Tryz.underlying213,
  a45 := Tryz.isAgg213,
  z45 := Tryz.sizeOf213,
  v45 := Tryz.zeroValue213,
  t46 := Tryz.underlying214,
  a46 := Tryz.isAgg214,
  z46 := Tryz.sizeOf214,
  v46 := Tryz.zeroValue214,
  t50 := Tryz.underlying218,
  a50 := Tryz.isAgg218,
  z50 := Tryz.sizeOf218,
  v50 := Tryz.zeroValue218,
  t53 := Tryz.underlying203,
  a53 := Tryz.isAgg203,
  z53 := Tryz.sizeOf203,
  v53 := Tryz.zeroValue203,
  t55 := Tryz.underlying195,
  a55 := Tryz.isAgg195,
  z55 := Tryz.sizeOf195,
  v55 := Tryz.zeroValue195,
  t66 := Tryz.underlying243,
  a66 := Tryz.isAgg243,
  z66 := Tryz.sizeOf243,
  v66 := Tryz.zeroValue243,
  t70 := Tryz.underlying247,
  a70 := Tryz.isAgg247,
  z70 := Tryz.sizeOf247,
  v70 := Tryz.zeroValue247,
  t76 := Tryz.underlying259,
  a76 := Tryz.isAgg259,
  z76 := Tryz.sizeOf259,
  v76 := Tryz.zeroValue259,
  t77 := Tryz.underlying260,
  a77 := Tryz.isAgg260,
  z77 := Tryz.sizeOf260,
  v77 := Tryz.zeroValue260 }

end Go.Proofs.YtpgcghnlepnoiaaGreatDoor
