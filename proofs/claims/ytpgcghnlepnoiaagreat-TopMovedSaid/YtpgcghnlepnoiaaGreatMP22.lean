/-
  Several texts in one (merged by a program of mine): SortOwn, SortLayHandle, SortLayBond, SortLayRow.
-/
import Derived.Test.YtpgcghnlepnoiaaGreatMP21
import Derived.Shelf.SlSortCmp.NoneTotal
set_option linter.unusedVariables false
set_option linter.unusedSimpArgs false
set_option linter.unusedSectionVars false
/-
  slices.SortFunc at a slice of structs of the call's own, among other things in memory.
-/
namespace Go.Proofs.YtpgcghnlepnoiaaGreat
open Go.RowKit Go.Shelf Go.Sort

section
variable {α : Type} [Inhabited α] {enc : α → List Value} {k : Nat}
theorem flatK_toList (hk : ∀ x, (enc x).length = k) (d : Array α) : (flatK enc k d).toList = d.toList.flatMap enc := by
  apply List.ext_getElem?
  intro t
  have hl := flat_len hk d.toList
  by_cases ht : t < d.size * k
  · have hk0 : 0 < k := by rcases Nat.eq_zero_or_pos k with h | h; subst h; simp at ht; exact h
    have hd : t / k < d.size := (Nat.div_lt_iff_lt_mul hk0).2 ht
    have hm := Nat.mod_lt t hk0
    have h1 := get_flatK enc k d t ht
    have e1 : (flatK enc k d).toList[t]? = some ((enc d[t / k]!)[t % k]!) := by
      rw [Array.getElem?_toList, Array.getElem?_eq_getElem (by simpa using ht), ← h1]
      rw [getElem!_pos (flatK enc k d) t (by simpa using ht)]
    have e2 := flat_get hk d.toList (t / k) (t % k) (by simpa using hd) hm
    rw [Nat.mul_comm, Nat.div_add_mod] at e2
    rw [e1, e2]
    have e3 : d[t / k]! = d.toList[t / k]'(by simpa using hd) := by
      rw [getElem!_pos d (t / k) hd]; simp
    rw [e3]
    have e4 : t % k < (enc (d.toList[t / k]'(by simpa using hd))).length := by rw [hk]; exact hm
    rw [List.getElem?_eq_getElem e4, getElem!_pos (enc (d.toList[t / k]'(by simpa using hd))) _ e4]
  · rw [List.getElem?_eq_none (by simp; omega), List.getElem?_eq_none (by rw [hl]; simp; omega)]
theorem holds_of_own (hk : ∀ x, (enc x).length = k) {w : World} {E : TypeId} {g c : Nat} {xs : List α} (h : w.ownsRow 0 E k (.slice (some ⟨g, 0, none⟩) xs.length c) xs.length (xs.flatMap enc)) : HoldsK enc k w g 0 xs.toArray := by
  intro j hj
  rw [size_flatK] at hj
  have hj' : j < xs.length * k := by simpa using hj
  have hl := flat_len hk xs
  have e1 : (flatK enc k xs.toArray)[j]! = (xs.flatMap enc)[j]'(by omega) := by
    rw [getElem!_pos (flatK enc k xs.toArray) j (by simpa using hj), ← Array.getElem_toList]
    simp only [flatK_toList hk]
  refine ⟨?_, by rw [Nat.zero_add]; exact h.frozenAt _⟩
  rw [Nat.zero_add, World.ownsRow.cellAt h j hj', e1, List.getElem?_eq_getElem (by omega)]
  rfl
theorem only_sorted (w : World) (g m : Nat) (d : Array α) (os : Array Obj) : Only (· = g) w (sortWorldK enc k w g 0 m d os) := by
  refine ⟨rfl, rfl, rfl, ?_, fun q hq hne => ?_⟩
  · show w.heap.size ≤ ((w.heap.modify g _) ++ os).size
    simp
  · show ((w.heap.modify g _) ++ os)[q]? = _
    rw [Array.getElem?_append_left (by simpa using hq), Array.getElem?_modify, if_neg (fun e => hne e.symm)]
theorem own_sorted (hk : ∀ x, (enc x).length = k) {w : World} {E : TypeId} {g c : Nat} {xs : List α} (h : w.ownsRow 0 E k (.slice (some ⟨g, 0, none⟩) xs.length c) xs.length (xs.flatMap enc)) (m : Nat) (d : Array α) (hd : d.size = xs.length) (os : Array Obj) :
    (sortWorldK enc k w g 0 m d os).ownsRow 0 E k (.slice (some ⟨g, 0, none⟩) d.toList.length c) d.toList.length (d.toList.flatMap enc) := by
  have hlt := (h.lt g rfl).2
  obtain ⟨hl, h0 | ⟨g', cap, cur, e, _, hg, h1, h2, h3, h4⟩⟩ := h
  · cases h0.1
  · injection e with e1 e2 e3
    injection e1 with e1
    injection e1 with e1
    subst e1; subst e3
    have hdl : d.toList.length = xs.length := by simpa using hd
    refine ⟨flat_len hk _, Or.inr ⟨g, c, putCells id 0 (flatK enc k d) cur, rfl, Nat.zero_le _, ?_, by omega, h2, by simpa [putCells] using h3, ?_⟩⟩
    · show ((w.heap.modify g _) ++ os)[g]? = _
      rw [Array.getElem?_append_left (by simpa using hlt), Array.getElem?_modify, if_pos rfl, hg]
      rfl
    · rw [hdl]
      have hsz : xs.length * k ≤ cur.size := by rw [h3]; exact Nat.mul_le_mul_right k h1
      apply List.ext_getElem?
      intro t
      have hfl := flat_len hk d.toList
      rw [hdl] at hfl
      by_cases ht : t < xs.length * k
      · rw [List.getElem?_take, if_pos ht, Array.getElem?_toList]
        unfold putCells
        rw [Array.getElem?_mapIdx, Array.getElem?_eq_getElem (by omega)]
        simp only [Option.map_some]
        have hts : t < (flatK enc k d).size := by rw [size_flatK, hd]; exact ht
        rw [if_pos ⟨Nat.zero_le _, by omega⟩, Nat.sub_zero, getElem!_pos (flatK enc k d) t hts, ← Array.getElem_toList]
        simp only [flatK_toList hk, id]
        rw [List.getElem?_eq_getElem]
      · rw [List.getElem?_take, if_neg ht, List.getElem?_eq_none (by omega)]
end

section
variable {α : Type} [Inhabited α] {enc : α → List Value} {k : Nat} {ρ : Ren} {G : Nat → Prop} {w0 w : World} {l : List Assn} {v : Value} {xs : List α}
/-- slices.SortFunc of a slice of the call's own -/
theorem sort_in (L : SlLaysF0.n6 Tryz.prog ρ) (aE : ∀ w, (isAgg (ρ.t 24)).run Tryz.prog w = .ok true w) (zE : ∀ w, (Go.sizeOf (ρ.t 24)).run Tryz.prog w = .ok k w) (hk : ∀ x, (enc x).length = k) (h1 : ∀ x, ∀ u ∈ enc x, u.oneCell' = true)
    (cf : α → α → Int) (hO : SWO (ltOf cf)) (g : Nat) (eg : ∀ args w, (callFunc g args).run Tryz.prog w = .ok (.enter g args) w) (hcmp : ∀ blk off size w, CmpLays Tryz.prog g #[] enc k cf blk off size w) (E : TypeId)
    (h : In G w0 (RowA E k v xs.length (xs.flatMap enc) :: l) w) (hl : xs.length ≤ 1099511627776) :
    Calls Tryz.prog (ρ.f 6) #[v, .func (.func g) #[] #[]] w fun e w' => e = .returned (.tuple #[]) ∧ ∃ ys : List α, ys.Perm xs ∧ ys.Pairwise (fun a b => decide (cf b a < 0) = false) ∧ In G w0 (RowA E k v ys.length (ys.flatMap enc) :: l) w' := by
  obtain ⟨F1, ⟨hA, hF⟩, _, hback⟩ := h.open_
  obtain ⟨A, c, rfl, hc1, hc2, hg⟩ := own_form hA
  by_cases h0 : xs.length = 0
  · have hx : xs = [] := List.eq_nil_of_length_eq_zero h0
    subst hx
    exact (AnyF.slices_SortFunc_none L A c (.func (.func g) #[] #[]) w).mono fun e w' ⟨he, hw⟩ => ⟨he, [], List.Perm.refl _, List.Pairwise.nil, by rw [hw]; exact h⟩
  · obtain ⟨b, rfl⟩ := hg (by omega)
    have hlt := (hA.lt b rfl).2
    have hcon := AnyQ.slices_SortFunc L k aE zE enc hk h1 cf hO g #[] b 0 c xs.toArray w eg (hcmp b 0 _ w) (holds_of_own hk hA) hlt (by simp; omega)
    refine hcon.mono ?_
    rintro e w' ⟨he, d', n, os, ⟨hs, _, hp⟩, hsorted, rfl⟩
    have hs' : d'.size = xs.length := by simpa using hs
    refine ⟨he, d'.toList, ?_, ?_, ?_⟩
    · have e1 : d'.extract 0 xs.toArray.size = d' := by rw [← hs]; exact Array.extract_size
      have e2 : xs.toArray.extract 0 xs.toArray.size = xs.toArray := Array.extract_size
      rw [e1, e2] at hp
      exact hp
    · rw [List.pairwise_iff_getElem]
      intro i j hi hj hij
      have := hsorted i j (Nat.zero_le _) hij (by rw [← hs]; simpa using hj)
      rw [getElem!_pos d' j (by simpa using hj), getElem!_pos d' i (by simpa using hi)] at this
      exact this
    · have hv : d'.toList.length = xs.length := by simpa using hs'
      refine hback (A' := RowA E k (.slice (some ⟨b, 0, none⟩) xs.length c) d'.toList.length (d'.toList.flatMap enc)) ⟨?_, fun q hq => Or.inl (hF q hq)⟩ ((only_sorted w b n d' os).mono fun q _ e => by subst e; exact hF _ rfl)
      have := own_sorted hk hA n d' hs' os
      rw [hv] at this ⊢
      exact this
end

end Go.Proofs.YtpgcghnlepnoiaaGreat

/-
  slices.SortFunc at []api.Handle: its functions' and types' numbers (printed by wip/gen_sort.py).
-/
namespace Go.Proofs.YtpgcghnlepnoiaaGreat
open Go.RowKit Go.Shelf

def sortHandle_ren : Ren := ⟨fun | 6 => 86 | 14 => 103 | 15 => 99 | 28 => 130 | 29 => 131 | 20 => 140 | 21 => 141 | 22 => 142 | 23 => 143 | 24 => 144 | 25 => 145 | 26 => 146 | 27 => 147 | 46 => 168 | 47 => 161 | 48 => 162 | 49 => 169 | 50 => 170 | 57 => 176 | n => n, fun | 22 => 88 | 24 => 30 | 25 => 167 | 3 => 3 | 39 => 191 | 0 => 0 | 53 => 184 | 55 => 181 | 4 => 4 | 46 => 209 | 45 => 208 | 50 => 213 | 5 => 5 | 9 => 9 | 66 => 239 | 70 => 242 | 76 => 250 | 77 => 251 | n => n, fun n => n⟩
theorem sortHandle_lay : SlLaysF0.n6 Tryz.prog sortHandle_ren := {
  mixed := by kernel_rfl,
  f6 := ⟨Tryz.f86.name, by decide, Tryz.func86.trans (congrArg some (by kernel_rfl))⟩,
  f14 := ⟨Tryz.f103.name, by decide, Tryz.func103.trans (congrArg some (by kernel_rfl))⟩,
  f15 := Tryz.func99.trans (congrArg some (by kernel_rfl)),
  f20 := ⟨Tryz.f140.name, by decide, Tryz.func140.trans (congrArg some (by kernel_rfl))⟩,
  f21 := ⟨Tryz.f141.name, by decide, Tryz.func141.trans (congrArg some (by kernel_rfl))⟩,
  f22 := ⟨Tryz.f142.name, by decide, Tryz.func142.trans (congrArg some (by kernel_rfl))⟩,
  f23 := ⟨Tryz.f143.name, by decide, Tryz.func143.trans (congrArg some (by kernel_rfl))⟩,
  f24 := ⟨Tryz.f144.name, by decide, Tryz.func144.trans (congrArg some (by kernel_rfl))⟩,
  f25 := ⟨Tryz.f145.name, by decide, Tryz.func145.trans (congrArg some (by kernel_rfl))⟩,
  f26 := ⟨Tryz.f146.name, by decide, Tryz.func146.trans (congrArg some (by kernel_rfl))⟩,
  f27 := ⟨Tryz.f147.name, by decide, Tryz.func147.trans (congrArg some (by kernel_rfl))⟩,
  f28 := Tryz.func130.trans (congrArg some (by kernel_rfl)),
  f29 := Tryz.func131.trans (congrArg some (by kernel_rfl)),
  f46 := ⟨Tryz.f168.name, by decide, Tryz.func168.trans (congrArg some (by kernel_rfl))⟩,
  f47 := Tryz.func161.trans (congrArg some (by kernel_rfl)),
  f48 := Tryz.func162.trans (congrArg some (by kernel_rfl)),
  f49 := ⟨Tryz.f169.name, by decide, Tryz.func169.trans (congrArg some (by kernel_rfl))⟩,
  f50 := ⟨Tryz.f170.name, by decide, Tryz.func170.trans (congrArg some (by kernel_rfl))⟩,
  f57 := ⟨Tryz.f176.name, by decide, Tryz.func176.trans (congrArg some (by kernel_rfl))⟩,
  t0 := Tryz.underlying0,
  a0 := Tryz.isAgg0,
  z0 := Tryz.sizeOf0,
  v0 := Tryz.zeroValue0,
  t3 := Tryz.underlying3,
  a3 := Tryz.isAgg3,
  z3 := Tryz.sizeOf3,
  v3 := Tryz.zeroValue3,
  t4 := Tryz.underlying4,
  a4 := Tryz.isAgg4,
  z4 := Tryz.sizeOf4,
  v4 := Tryz.zeroValue4,
  t5 := Tryz.underlying5,
  a5 := Tryz.isAgg5,
  z5 := Tryz.sizeOf5,
  v5 := Tryz.zeroValue5,
  t9 := Tryz.underlying9,
  a9 := Tryz.isAgg9,
  z9 := Tryz.sizeOf9,
  v9 := Tryz.zeroValue9,
  t22 := Tryz.underlying88,
  a22 := Tryz.isAgg88,
  z22 := Tryz.sizeOf88,
  v22 := Tryz.zeroValue88,
  t25 := Tryz.underlying167,
  a25 := Tryz.isAgg167,
  z25 := Tryz.sizeOf167,
  v25 := Tryz.zeroValue167,
  t39 := Tryz.underlying191,
  a39 := Tryz.isAgg191,
  z39 := Tryz.sizeOf191,
  v39 := Tryz.zeroValue191,
  t45 := Tryz.underlying208,
  a45 := Tryz.isAgg208,
  z45 := Tryz.sizeOf208,
  v45 := Tryz.zeroValue208,
  t46 := Tryz.underlying209,
  a46 := Tryz.isAgg209,
  z46 := Tryz.sizeOf209,
  v46 := Tryz.zeroValue209,
  t50 := Tryz.underlying213,
  a50 := Tryz.isAgg213,
  z50 := Tryz.sizeOf213,
  v50 := Tryz.zeroValue213,
  t53 := Tryz.underlying184,
  a53 := Tryz.isAgg184,
  z53 := Tryz.sizeOf184,
  v53 := Tryz.zeroValue184,
  t55 := Tryz.underlying181,
  a55 := Tryz.isAgg181,
  z55 := Tryz.sizeOf181,
  v55 := Tryz.zeroValue181,
  t66 := Tryz.underlying239,
  a66 := Tryz.isAgg239,
  z66 := Tryz.sizeOf239,
  v66 := Tryz.zeroValue239,
  t70 := Tryz.underlying242,
  a70 := Tryz.isAgg242,
  z70 := Tryz.sizeOf242,
  v70 := Tryz.zeroValue242,
  t76 := Tryz.underlying250,
  a76 := Tryz.isAgg250,
  z76 := Tryz.sizeOf250,
  v76 := Tryz.zeroValue250,
  t77 := Tryz.underlying251,
  a77 := Tryz.isAgg251,
  z77 := Tryz.sizeOf251,
  v77 := Tryz.zeroValue251 }

end Go.Proofs.YtpgcghnlepnoiaaGreat

/-
  slices.SortFunc at []api.Bond: its functions' and types' numbers (printed by wip/gen_sort.py).
-/
namespace Go.Proofs.YtpgcghnlepnoiaaGreat
open Go.RowKit Go.Shelf

def sortBond_ren : Ren := ⟨fun | 6 => 81 | 14 => 101 | 15 => 99 | 28 => 130 | 29 => 131 | 20 => 132 | 21 => 133 | 22 => 134 | 23 => 135 | 24 => 136 | 25 => 137 | 26 => 138 | 27 => 139 | 46 => 165 | 47 => 161 | 48 => 162 | 49 => 166 | 50 => 167 | 57 => 175 | n => n, fun | 22 => 46 | 24 => 148 | 25 => 168 | 3 => 3 | 39 => 191 | 0 => 0 | 53 => 184 | 55 => 181 | 4 => 4 | 46 => 209 | 45 => 208 | 50 => 213 | 5 => 5 | 9 => 9 | 66 => 239 | 70 => 242 | 76 => 250 | 77 => 251 | n => n, fun n => n⟩
theorem sortBond_lay : SlLaysF0.n6 Tryz.prog sortBond_ren := {
  mixed := by kernel_rfl,
  f6 := ⟨Tryz.f81.name, by decide, Tryz.func81.trans (congrArg some (by kernel_rfl))⟩,
  f14 := ⟨Tryz.f101.name, by decide, Tryz.func101.trans (congrArg some (by kernel_rfl))⟩,
  f15 := Tryz.func99.trans (congrArg some (by kernel_rfl)),
  f20 := ⟨Tryz.f132.name, by decide, Tryz.func132.trans (congrArg some (by kernel_rfl))⟩,
  f21 := ⟨Tryz.f133.name, by decide, Tryz.func133.trans (congrArg some (by kernel_rfl))⟩,
  f22 := ⟨Tryz.f134.name, by decide, Tryz.func134.trans (congrArg some (by kernel_rfl))⟩,
  f23 := ⟨Tryz.f135.name, by decide, Tryz.func135.trans (congrArg some (by kernel_rfl))⟩,
  f24 := ⟨Tryz.f136.name, by decide, Tryz.func136.trans (congrArg some (by kernel_rfl))⟩,
  f25 := ⟨Tryz.f137.name, by decide, Tryz.func137.trans (congrArg some (by kernel_rfl))⟩,
  f26 := ⟨Tryz.f138.name, by decide, Tryz.func138.trans (congrArg some (by kernel_rfl))⟩,
  f27 := ⟨Tryz.f139.name, by decide, Tryz.func139.trans (congrArg some (by kernel_rfl))⟩,
  f28 := Tryz.func130.trans (congrArg some (by kernel_rfl)),
  f29 := Tryz.func131.trans (congrArg some (by kernel_rfl)),
  f46 := ⟨Tryz.f165.name, by decide, Tryz.func165.trans (congrArg some (by kernel_rfl))⟩,
  f47 := Tryz.func161.trans (congrArg some (by kernel_rfl)),
  f48 := Tryz.func162.trans (congrArg some (by kernel_rfl)),
  f49 := ⟨Tryz.f166.name, by decide, Tryz.func166.trans (congrArg some (by kernel_rfl))⟩,
  f50 := ⟨Tryz.f167.name, by decide, Tryz.func167.trans (congrArg some (by kernel_rfl))⟩,
  f57 := ⟨Tryz.f175.name, by decide, Tryz.func175.trans (congrArg some (by kernel_rfl))⟩,
  t0 := Tryz.underlying0,
  a0 := Tryz.isAgg0,
  z0 := Tryz.sizeOf0,
  v0 := Tryz.zeroValue0,
  t3 := Tryz.underlying3,
  a3 := Tryz.isAgg3,
  z3 := Tryz.sizeOf3,
  v3 := Tryz.zeroValue3,
  t4 := Tryz.underlying4,
  a4 := Tryz.isAgg4,
  z4 := Tryz.sizeOf4,
  v4 := Tryz.zeroValue4,
  t5 := Tryz.underlying5,
  a5 := Tryz.isAgg5,
  z5 := Tryz.sizeOf5,
  v5 := Tryz.zeroValue5,
  t9 := Tryz.underlying9,
  a9 := Tryz.isAgg9,
  z9 := Tryz.sizeOf9,
  v9 := Tryz.zeroValue9,
  t22 := Tryz.underlying46,
  a22 := Tryz.isAgg46,
  z22 := Tryz.sizeOf46,
  v22 := Tryz.zeroValue46,
  t25 := Tryz.underlying168,
  a25 := Tryz.isAgg168,
  z25 := Tryz.sizeOf168,
  v25 := Tryz.zeroValue168,
  t39 := Tryz.underlying191,
  a39 := Tryz.isAgg191,
  z39 := Tryz.sizeOf191,
  v39 := Tryz.zeroValue191,
  t45 := Tryz.underlying208,
  a45 := Tryz.isAgg208,
  z45 := Tryz.sizeOf208,
  v45 := Tryz.zeroValue208,
  t46 := Tryz.underlying209,
  a46 := Tryz.isAgg209,
  z46 := Tryz.sizeOf209,
  v46 := Tryz.zeroValue209,
  t50 := Tryz.underlying213,
  a50 := Tryz.isAgg213,
  z50 := Tryz.sizeOf213,
  v50 := Tryz.zeroValue213,
  t53 := Tryz.underlying184,
  a53 := Tryz.isAgg184,
  z53 := Tryz.sizeOf184,
  v53 := Tryz.zeroValue184,
  t55 := Tryz.underlying181,
  a55 := Tryz.isAgg181,
  z55 := Tryz.sizeOf181,
  v55 := Tryz.zeroValue181,
  t66 := Tryz.underlying239,
  a66 := Tryz.isAgg239,
  z66 := Tryz.sizeOf239,
  v66 := Tryz.zeroValue239,
  t70 := Tryz.underlying242,
  a70 := Tryz.isAgg242,
  z70 := Tryz.sizeOf242,
  v70 := Tryz.zeroValue242,
  t76 := Tryz.underlying250,
  a76 := Tryz.isAgg250,
  z76 := Tryz.sizeOf250,
  v76 := Tryz.zeroValue250,
  t77 := Tryz.underlying251,
  a77 := Tryz.isAgg251,
  z77 := Tryz.sizeOf251,
  v77 := Tryz.zeroValue251 }

end Go.Proofs.YtpgcghnlepnoiaaGreat

/-
  slices.SortFunc at []api.Row: its functions' and types' numbers (printed by wip/gen_sort.py).
-/
namespace Go.Proofs.YtpgcghnlepnoiaaGreat
open Go.RowKit Go.Shelf

def sortRow_ren : Ren := ⟨fun | 6 => 78 | 14 => 98 | 15 => 99 | 28 => 130 | 29 => 131 | 20 => 122 | 21 => 123 | 22 => 124 | 23 => 125 | 24 => 126 | 25 => 127 | 26 => 128 | 27 => 129 | 46 => 160 | 47 => 161 | 48 => 162 | 49 => 163 | 50 => 164 | 57 => 174 | n => n, fun | 22 => 45 | 24 => 57 | 25 => 165 | 3 => 3 | 39 => 191 | 0 => 0 | 53 => 184 | 55 => 181 | 4 => 4 | 46 => 209 | 45 => 208 | 50 => 213 | 5 => 5 | 9 => 9 | 66 => 239 | 70 => 242 | 76 => 250 | 77 => 251 | n => n, fun n => n⟩
theorem sortRow_lay : SlLaysF0.n6 Tryz.prog sortRow_ren := {
  mixed := by kernel_rfl,
  f6 := ⟨Tryz.f78.name, by decide, Tryz.func78.trans (congrArg some (by kernel_rfl))⟩,
  f14 := ⟨Tryz.f98.name, by decide, Tryz.func98.trans (congrArg some (by kernel_rfl))⟩,
  f15 := Tryz.func99.trans (congrArg some (by kernel_rfl)),
  f20 := ⟨Tryz.f122.name, by decide, Tryz.func122.trans (congrArg some (by kernel_rfl))⟩,
  f21 := ⟨Tryz.f123.name, by decide, Tryz.func123.trans (congrArg some (by kernel_rfl))⟩,
  f22 := ⟨Tryz.f124.name, by decide, Tryz.func124.trans (congrArg some (by kernel_rfl))⟩,
  f23 := ⟨Tryz.f125.name, by decide, Tryz.func125.trans (congrArg some (by kernel_rfl))⟩,
  f24 := ⟨Tryz.f126.name, by decide, Tryz.func126.trans (congrArg some (by kernel_rfl))⟩,
  f25 := ⟨Tryz.f127.name, by decide, Tryz.func127.trans (congrArg some (by kernel_rfl))⟩,
  f26 := ⟨Tryz.f128.name, by decide, Tryz.func128.trans (congrArg some (by kernel_rfl))⟩,
  f27 := ⟨Tryz.f129.name, by decide, Tryz.func129.trans (congrArg some (by kernel_rfl))⟩,
  f28 := Tryz.func130.trans (congrArg some (by kernel_rfl)),
  f29 := Tryz.func131.trans (congrArg some (by kernel_rfl)),
  f46 := ⟨Tryz.f160.name, by decide, Tryz.func160.trans (congrArg some (by kernel_rfl))⟩,
  f47 := Tryz.func161.trans (congrArg some (by kernel_rfl)),
  f48 := Tryz.func162.trans (congrArg some (by kernel_rfl)),
  f49 := ⟨Tryz.f163.name, by decide, Tryz.func163.trans (congrArg some (by kernel_rfl))⟩,
  f50 := ⟨Tryz.f164.name, by decide, Tryz.func164.trans (congrArg some (by kernel_rfl))⟩,
  f57 := ⟨Tryz.f174.name, by decide, Tryz.func174.trans (congrArg some (by kernel_rfl))⟩,
  t0 := Tryz.underlying0,
  a0 := Tryz.isAgg0,
  z0 := Tryz.sizeOf0,
  v0 := Tryz.zeroValue0,
  t3 := Tryz.underlying3,
  a3 := Tryz.isAgg3,
  z3 := Tryz.sizeOf3,
  v3 := Tryz.zeroValue3,
  t4 := Tryz.underlying4,
  a4 := Tryz.isAgg4,
  z4 := Tryz.sizeOf4,
  v4 := Tryz.zeroValue4,
  t5 := Tryz.underlying5,
  a5 := Tryz.isAgg5,
  z5 := Tryz.sizeOf5,
  v5 := Tryz.zeroValue5,
  t9 := Tryz.underlying9,
  a9 := Tryz.isAgg9,
  z9 := Tryz.sizeOf9,
  v9 := Tryz.zeroValue9,
  t22 := Tryz.underlying45,
  a22 := Tryz.isAgg45,
  z22 := Tryz.sizeOf45,
  v22 := Tryz.zeroValue45,
  t25 := Tryz.underlying165,
  a25 := Tryz.isAgg165,
  z25 := Tryz.sizeOf165,
  v25 := Tryz.zeroValue165,
  t39 := Tryz.underlying191,
  a39 := Tryz.isAgg191,
  z39 := Tryz.sizeOf191,
  v39 := Tryz.zeroValue191,
  t45 := Tryz.underlying208,
  a45 := Tryz.isAgg208,
  z45 := Tryz.sizeOf208,
  v45 := Tryz.zeroValue208,
  t46 := Tryz.underlying209,
  a46 := Tryz.isAgg209,
  z46 := Tryz.sizeOf209,
  v46 := Tryz.zeroValue209,
  t50 := Tryz.underlying213,
  a50 := Tryz.isAgg213,
  z50 := Tryz.sizeOf213,
  v50 := Tryz.zeroValue213,
  t53 := Tryz.underlying184,
  a53 := Tryz.isAgg184,
  z53 := Tryz.sizeOf184,
  v53 := Tryz.zeroValue184,
  t55 := Tryz.underlying181,
  a55 := Tryz.isAgg181,
  z55 := Tryz.sizeOf181,
  v55 := Tryz.zeroValue181,
  t66 := Tryz.underlying239,
  a66 := Tryz.isAgg239,
  z66 := Tryz.sizeOf239,
  v66 := Tryz.zeroValue239,
  t70 := Tryz.underlying242,
  a70 := Tryz.isAgg242,
  z70 := Tryz.sizeOf242,
  v70 := Tryz.zeroValue242,
  t76 := Tryz.underlying250,
  a76 := Tryz.isAgg250,
  z76 := Tryz.sizeOf250,
  v76 := Tryz.zeroValue250,
  t77 := Tryz.underlying251,
  a77 := Tryz.isAgg251,
  z77 := Tryz.sizeOf251,
  v77 := Tryz.zeroValue251 }

end Go.Proofs.YtpgcghnlepnoiaaGreat
