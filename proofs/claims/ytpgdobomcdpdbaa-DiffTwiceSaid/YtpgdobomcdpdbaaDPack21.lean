/-
  Several texts in one (merged by a program of mine): SortOwn, SortLayHandle, SortLayBond.
-/
import Derived.Test.YtpgdobomcdpdbaaDPack20
import Derived.Shelf.SlSortCmp.NoneTotal
/-
  slices.SortFunc at a slice of structs of the call's own, among other things in memory.
-/
namespace Go.Proofs.Ytpgdobomcdpdbaa
open Go.RowKit Go.Shelf Go.Sort

section
variable {α : Type} [Inhabited α] {enc : α → List Value} {k : Nat}
theorem flatK_toList (hk : ∀ x, (enc x).length = k) (d : Array α) : (flatK enc k d).toList = d.toList.flatMap enc := by
  apply List.ext_getElem?
  intro t
  have hl := flat_len hk d.toList
  by_cases ht : t < d.size * k
  · have hk0 : 0 < k := by rcases Nat.eq_zero_or_pos k with h | h; subst h; simp at ht; exact h
    have hd : t / k < d.size := (Nat.div_lt_iff_lt_mul hk0).2 ht
    have hm := Nat.mod_lt t hk0
    have h1 := get_flatK enc k d t ht
    have e1 : (flatK enc k d).toList[t]? = some ((enc d[t / k]!)[t % k]!) := by
      rw [Array.getElem?_toList, Array.getElem?_eq_getElem (by simpa using ht), ← h1]
      rw [getElem!_pos (flatK enc k d) t (by simpa using ht)]
    have e2 := flat_get hk d.toList (t / k) (t % k) (by simpa using hd) hm
    rw [Nat.mul_comm, Nat.div_add_mod] at e2
    rw [e1, e2]
    have e3 : d[t / k]! = d.toList[t / k]'(by simpa using hd) := by
      rw [getElem!_pos d (t / k) hd]; simp
    rw [e3]
    have e4 : t % k < (enc (d.toList[t / k]'(by simpa using hd))).length := by rw [hk]; exact hm
    rw [List.getElem?_eq_getElem e4, getElem!_pos (enc (d.toList[t / k]'(by simpa using hd))) _ e4]
  · rw [List.getElem?_eq_none (by simp; omega), List.getElem?_eq_none (by rw [hl]; simp; omega)]
theorem holds_of_own (hk : ∀ x, (enc x).length = k) {w : World} {E : TypeId} {g c : Nat} {xs : List α} (h : w.ownsRow 0 E k (.slice (some ⟨g, 0, none⟩) xs.length c) xs.length (xs.flatMap enc)) : HoldsK enc k w g 0 xs.toArray := by
  intro j hj
  rw [size_flatK] at hj
  have hj' : j < xs.length * k := by simpa using hj
  have hl := flat_len hk xs
  have e1 : (flatK enc k xs.toArray)[j]! = (xs.flatMap enc)[j]'(by omega) := by
    rw [getElem!_pos (flatK enc k xs.toArray) j (by simpa using hj), ← Array.getElem_toList]
    simp only [flatK_toList hk]
  refine ⟨?_, by rw [Nat.zero_add]; exact h.frozenAt _⟩
  rw [Nat.zero_add, World.ownsRow.cellAt h j hj', e1, List.getElem?_eq_getElem (by omega)]
  rfl
theorem only_sorted (w : World) (g m : Nat) (d : Array α) (os : Array Obj) : Only (· = g) w (sortWorldK enc k w g 0 m d os) := by
  refine ⟨rfl, rfl, rfl, ?_, fun q hq hne => ?_⟩
  · show w.heap.size ≤ ((w.heap.modify g _) ++ os).size
    simp
  · show ((w.heap.modify g _) ++ os)[q]? = _
    rw [Array.getElem?_append_left (by simpa using hq), Array.getElem?_modify, if_neg (fun e => hne e.symm)]
theorem own_sorted (hk : ∀ x, (enc x).length = k) {w : World} {E : TypeId} {g c : Nat} {xs : List α} (h : w.ownsRow 0 E k (.slice (some ⟨g, 0, none⟩) xs.length c) xs.length (xs.flatMap enc)) (m : Nat) (d : Array α) (hd : d.size = xs.length) (os : Array Obj) :
    (sortWorldK enc k w g 0 m d os).ownsRow 0 E k (.slice (some ⟨g, 0, none⟩) d.toList.length c) d.toList.length (d.toList.flatMap enc) := by
  have hlt := (h.lt g rfl).2
  obtain ⟨hl, h0 | ⟨g', cap, cur, e, _, hg, h1, h2, h3, h4⟩⟩ := h
  · cases h0.1
  · injection e with e1 e2 e3
    injection e1 with e1
    injection e1 with e1
    subst e1; subst e3
    have hdl : d.toList.length = xs.length := by simpa using hd
    refine ⟨flat_len hk _, Or.inr ⟨g, c, putCells id 0 (flatK enc k d) cur, rfl, Nat.zero_le _, ?_, by omega, h2, by simpa [putCells] using h3, ?_⟩⟩
    · show ((w.heap.modify g _) ++ os)[g]? = _
      rw [Array.getElem?_append_left (by simpa using hlt), Array.getElem?_modify, if_pos rfl, hg]
      rfl
    · rw [hdl]
      have hsz : xs.length * k ≤ cur.size := by rw [h3]; exact Nat.mul_le_mul_right k h1
      apply List.ext_getElem?
      intro t
      have hfl := flat_len hk d.toList
      rw [hdl] at hfl
      by_cases ht : t < xs.length * k
      · rw [List.getElem?_take, if_pos ht, Array.getElem?_toList]
        unfold putCells
        rw [Array.getElem?_mapIdx, Array.getElem?_eq_getElem (by omega)]
        simp only [Option.map_some]
        have hts : t < (flatK enc k d).size := by rw [size_flatK, hd]; exact ht
        rw [if_pos ⟨Nat.zero_le _, by omega⟩, Nat.sub_zero, getElem!_pos (flatK enc k d) t hts, ← Array.getElem_toList]
        simp only [flatK_toList hk, id]
        rw [List.getElem?_eq_getElem]
      · rw [List.getElem?_take, if_neg ht, List.getElem?_eq_none (by omega)]
end

section
variable {α : Type} [Inhabited α] {enc : α → List Value} {k : Nat} {ρ : Ren} {G : Nat → Prop} {w0 w : World} {l : List Assn} {v : Value} {xs : List α}
/-- slices.SortFunc of a slice of the call's own -/
theorem sort_in (L : SlLaysF0.n6 Try.prog ρ) (aE : ∀ w, (isAgg (ρ.t 24)).run Try.prog w = .ok true w) (zE : ∀ w, (Go.sizeOf (ρ.t 24)).run Try.prog w = .ok k w) (hk : ∀ x, (enc x).length = k) (h1 : ∀ x, ∀ u ∈ enc x, u.oneCell' = true)
    (cf : α → α → Int) (hO : SWO (ltOf cf)) (g : Nat) (eg : ∀ args w, (callFunc g args).run Try.prog w = .ok (.enter g args) w) (hcmp : ∀ blk off size w, CmpLays Try.prog g #[] enc k cf blk off size w) (E : TypeId)
    (h : In G w0 (RowA E k v xs.length (xs.flatMap enc) :: l) w) (hl : xs.length ≤ 1099511627776) :
    Calls Try.prog (ρ.f 6) #[v, .func (.func g) #[] #[]] w fun e w' => e = .returned (.tuple #[]) ∧ ∃ ys : List α, ys.Perm xs ∧ ys.Pairwise (fun a b => decide (cf b a < 0) = false) ∧ In G w0 (RowA E k v ys.length (ys.flatMap enc) :: l) w' := by
  obtain ⟨F1, ⟨hA, hF⟩, _, hback⟩ := h.open_
  obtain ⟨A, c, rfl, hc1, hc2, hg⟩ := own_form hA
  by_cases h0 : xs.length = 0
  · have hx : xs = [] := List.eq_nil_of_length_eq_zero h0
    subst hx
    exact (AnyF.slices_SortFunc_none L A c (.func (.func g) #[] #[]) w).mono fun e w' ⟨he, hw⟩ => ⟨he, [], List.Perm.refl _, List.Pairwise.nil, by rw [hw]; exact h⟩
  · obtain ⟨b, rfl⟩ := hg (by omega)
    have hlt := (hA.lt b rfl).2
    have hcon := AnyQ.slices_SortFunc L k aE zE enc hk h1 cf hO g #[] b 0 c xs.toArray w eg (hcmp b 0 _ w) (holds_of_own hk hA) hlt (by simp; omega)
    refine hcon.mono ?_
    rintro e w' ⟨he, d', n, os, ⟨hs, _, hp⟩, hsorted, rfl⟩
    have hs' : d'.size = xs.length := by simpa using hs
    refine ⟨he, d'.toList, ?_, ?_, ?_⟩
    · have e1 : d'.extract 0 xs.toArray.size = d' := by rw [← hs]; exact Array.extract_size
      have e2 : xs.toArray.extract 0 xs.toArray.size = xs.toArray := Array.extract_size
      rw [e1, e2] at hp
      exact hp
    · rw [List.pairwise_iff_getElem]
      intro i j hi hj hij
      have := hsorted i j (Nat.zero_le _) hij (by rw [← hs]; simpa using hj)
      rw [getElem!_pos d' j (by simpa using hj), getElem!_pos d' i (by simpa using hi)] at this
      exact this
    · have hv : d'.toList.length = xs.length := by simpa using hs'
      refine hback (A' := RowA E k (.slice (some ⟨b, 0, none⟩) xs.length c) d'.toList.length (d'.toList.flatMap enc)) ⟨?_, fun q hq => Or.inl (hF q hq)⟩ ((only_sorted w b n d' os).mono fun q _ e => by subst e; exact hF _ rfl)
      have := own_sorted hk hA n d' hs' os
      rw [hv] at this ⊢
      exact this
end

end Go.Proofs.Ytpgdobomcdpdbaa

/-
  slices.SortFunc at []api.Handle: its functions' and types' numbers (printed by wip/gen_sort.py).
-/
namespace Go.Proofs.Ytpgdobomcdpdbaa
open Go.RowKit Go.Shelf

def sortHandle_ren : Ren := ⟨fun | 6 => 54 | 14 => 75 | 15 => 76 | 28 => 95 | 29 => 96 | 20 => 87 | 21 => 88 | 22 => 89 | 23 => 90 | 24 => 91 | 25 => 92 | 26 => 93 | 27 => 94 | 46 => 107 | 47 => 108 | 48 => 109 | 49 => 110 | 50 => 111 | 57 => 115 | n => n, fun | 22 => 28 | 24 => 36 | 25 => 108 | 3 => 3 | 39 => 133 | 0 => 0 | 53 => 152 | 55 => 154 | 4 => 4 | 46 => 145 | 45 => 144 | 50 => 149 | 5 => 5 | 9 => 9 | 66 => 161 | 70 => 165 | 76 => 169 | 77 => 170 | n => n, fun n => n⟩
theorem sortHandle_lay : SlLaysF0.n6 Try.prog sortHandle_ren := {
  mixed := by kernel_rfl,
  f6 := ⟨Try.f54.name, by decide, Try.func54.trans (congrArg some (by kernel_rfl))⟩,
  f14 := ⟨Try.f75.name, by decide, Try.func75.trans (congrArg some (by kernel_rfl))⟩,
  f15 := Try.func76.trans (congrArg some (by kernel_rfl)),
  f20 := ⟨Try.f87.name, by decide, Try.func87.trans (congrArg some (by kernel_rfl))⟩,
  f21 := ⟨Try.f88.name, by decide, Try.func88.trans (congrArg some (by kernel_rfl))⟩,
  f22 := ⟨Try.f89.name, by decide, Try.func89.trans (congrArg some (by kernel_rfl))⟩,
  f23 := ⟨Try.f90.name, by decide, Try.func90.trans (congrArg some (by kernel_rfl))⟩,
  f24 := ⟨Try.f91.name, by decide, Try.func91.trans (congrArg some (by kernel_rfl))⟩,
  f25 := ⟨Try.f92.name, by decide, Try.func92.trans (congrArg some (by kernel_rfl))⟩,
  f26 := ⟨Try.f93.name, by decide, Try.func93.trans (congrArg some (by kernel_rfl))⟩,
  f27 := ⟨Try.f94.name, by decide, Try.func94.trans (congrArg some (by kernel_rfl))⟩,
  f28 := Try.func95.trans (congrArg some (by kernel_rfl)),
  f29 := Try.func96.trans (congrArg some (by kernel_rfl)),
  f46 := ⟨Try.f107.name, by decide, Try.func107.trans (congrArg some (by kernel_rfl))⟩,
  f47 := Try.func108.trans (congrArg some (by kernel_rfl)),
  f48 := Try.func109.trans (congrArg some (by kernel_rfl)),
  f49 := ⟨Try.f110.name, by decide, Try.func110.trans (congrArg some (by kernel_rfl))⟩,
  f50 := ⟨Try.f111.name, by decide, Try.func111.trans (congrArg some (by kernel_rfl))⟩,
  f57 := ⟨Try.f115.name, by decide, Try.func115.trans (congrArg some (by kernel_rfl))⟩,
  t0 := Try.underlying0,
  a0 := Try.isAgg0,
  z0 := Try.sizeOf0,
  v0 := Try.zeroValue0,
  t3 := Try.underlying3,
  a3 := Try.isAgg3,
  z3 := Try.sizeOf3,
  v3 := Try.zeroValue3,
  t4 := Try.underlying4,
  a4 := Try.isAgg4,
  z4 := Try.sizeOf4,
  v4 := Try.zeroValue4,
  t5 := Try.underlying5,
  a5 := Try.isAgg5,
  z5 := Try.sizeOf5,
  v5 := Try.zeroValue5,
  t9 := Try.underlying9,
  a9 := Try.isAgg9,
  z9 := Try.sizeOf9,
  v9 := Try.zeroValue9,
  t22 := Try.underlying28,
  a22 := Try.isAgg28,
  z22 := Try.sizeOf28,
  v22 := Try.zeroValue28,
  t25 := Try.underlying108,
  a25 := Try.isAgg108,
  z25 := Try.sizeOf108,
  v25 := Try.zeroValue108,
  t39 := Try.underlying133,
  a39 := Try.isAgg133,
  z39 := Try.sizeOf133,
  v39 := Try.zeroValue133,
  t45 := Try.underlying144,
  a45 := Try.isAgg144,
  z45 := Try.sizeOf144,
  v45 := Try.zeroValue144,
  t46 := Try.underlying145,
  a46 := Try.isAgg145,
  z46 := Try.sizeOf145,
  v46 := Try.zeroValue145,
  t50 := Try.underlying149,
  a50 := Try.isAgg149,
  z50 := Try.sizeOf149,
  v50 := Try.zeroValue149,
  t53 := Try.underlying152,
  a53 := Try.isAgg152,
  z53 := Try.sizeOf152,
  v53 := Try.zeroValue152,
  t55 := Try.underlying154,
  a55 := Try.isAgg154,
  z55 := Try.sizeOf154,
  v55 := Try.zeroValue154,
  t66 := Try.underlying161,
  a66 := Try.isAgg161,
  z66 := Try.sizeOf161,
  v66 := Try.zeroValue161,
  t70 := Try.underlying165,
  a70 := Try.isAgg165,
  z70 := Try.sizeOf165,
  v70 := Try.zeroValue165,
  t76 := Try.underlying169,
  a76 := Try.isAgg169,
  z76 := Try.sizeOf169,
  v76 := Try.zeroValue169,
  t77 := Try.underlying170,
  a77 := Try.isAgg170,
  z77 := Try.sizeOf170,
  v77 := Try.zeroValue170 }

end Go.Proofs.Ytpgdobomcdpdbaa

/-
  slices.SortFunc at []api.Bond: its functions' and types' numbers (printed by wip/gen_sort.py).
-/
namespace Go.Proofs.Ytpgdobomcdpdbaa
open Go.RowKit Go.Shelf

def sortBond_ren : Ren := ⟨fun | 6 => 56 | 14 => 79 | 15 => 76 | 28 => 95 | 29 => 96 | 20 => 98 | 21 => 99 | 22 => 100 | 23 => 101 | 24 => 102 | 25 => 103 | 26 => 104 | 27 => 105 | 46 => 112 | 47 => 108 | 48 => 109 | 49 => 113 | 50 => 114 | 57 => 116 | n => n, fun | 22 => 54 | 24 => 59 | 25 => 110 | 3 => 3 | 39 => 133 | 0 => 0 | 53 => 152 | 55 => 154 | 4 => 4 | 46 => 145 | 45 => 144 | 50 => 149 | 5 => 5 | 9 => 9 | 66 => 161 | 70 => 165 | 76 => 169 | 77 => 170 | n => n, fun n => n⟩
theorem sortBond_lay : SlLaysF0.n6 Try.prog sortBond_ren := {
  mixed := by kernel_rfl,
  f6 := ⟨Try.f56.name, by decide, Try.func56.trans (congrArg some (by kernel_rfl))⟩,
  f14 := ⟨Try.f79.name, by decide, Try.func79.trans (congrArg some (by kernel_rfl))⟩,
  f15 := Try.func76.trans (congrArg some (by kernel_rfl)),
  f20 := ⟨Try.f98.name, by decide, Try.func98.trans (congrArg some (by kernel_rfl))⟩,
  f21 := ⟨Try.f99.name, by decide, Try.func99.trans (congrArg some (by kernel_rfl))⟩,
  f22 := ⟨Try.f100.name, by decide, Try.func100.trans (congrArg some (by kernel_rfl))⟩,
  f23 := ⟨Try.f101.name, by decide, Try.func101.trans (congrArg some (by kernel_rfl))⟩,
  f24 := ⟨Try.f102.name, by decide, Try.func102.trans (congrArg some (by kernel_rfl))⟩,
  f25 := ⟨Try.f103.name, by decide, Try.func103.trans (congrArg some (by kernel_rfl))⟩,
  f26 := ⟨Try.f104.name, by decide, Try.func104.trans (congrArg some (by kernel_rfl))⟩,
  f27 := ⟨Try.f105.name, by decide, Try.func105.trans (congrArg some (by kernel_rfl))⟩,
  f28 := Try.func95.trans (congrArg some (by kernel_rfl)),
  f29 := Try.func96.trans (congrArg some (by kernel_rfl)),
  f46 := ⟨Try.f112.name, by decide, Try.func112.trans (congrArg some (by kernel_rfl))⟩,
  f47 := Try.func108.trans (congrArg some (by kernel_rfl)),
  f48 := Try.func109.trans (congrArg some (by kernel_rfl)),
  f49 := ⟨Try.f113.name, by decide, Try.func113.trans (congrArg some (by kernel_rfl))⟩,
  f50 := ⟨Try.f114.name, by decide, Try.func114.trans (congrArg some (by kernel_rfl))⟩,
  f57 := ⟨Try.f116.name, by decide, Try.func116.trans (congrArg some (by kernel_rfl))⟩,
  t0 := Try.underlying0,
  a0 := Try.isAgg0,
  z0 := Try.sizeOf0,
  v0 := Try.zeroValue0,
  t3 := Try.underlying3,
  a3 := Try.isAgg3,
  z3 := Try.sizeOf3,
  v3 := Try.zeroValue3,
  t4 := Try.underlying4,
  a4 := Try.isAgg4,
  z4 := Try.sizeOf4,
  v4 := Try.zeroValue4,
  t5 := Try.underlying5,
  a5 := Try.isAgg5,
  z5 := Try.sizeOf5,
  v5 := Try.zeroValue5,
  t9 := Try.underlying9,
  a9 := Try.isAgg9,
  z9 := Try.sizeOf9,
  v9 := Try.zeroValue9,
  t22 := Try.underlying54,
  a22 := Try.isAgg54,
  z22 := Try.sizeOf54,
  v22 := Try.zeroValue54,
  t25 := Try.underlying110,
  a25 := Try.isAgg110,
  z25 := Try.sizeOf110,
  v25 := Try.zeroValue110,
  t39 := Try.underlying133,
  a39 := Try.isAgg133,
  z39 := Try.sizeOf133,
  v39 := Try.zeroValue133,
  t45 := Try.underlying144,
  a45 := Try.isAgg144,
  z45 := Try.sizeOf144,
  v45 := Try.zeroValue144,
  t46 := Try.underlying145,
  a46 := Try.isAgg145,
  z46 := Try.sizeOf145,
  v46 := Try.zeroValue145,
  t50 := Try.underlying149,
  a50 := Try.isAgg149,
  z50 := Try.sizeOf149,
  v50 := Try.zeroValue149,
  t53 := Try.underlying152,
  a53 := Try.isAgg152,
  z53 := Try.sizeOf152,
  v53 := Try.zeroValue152,
  t55 := Try.underlying154,
  a55 := Try.isAgg154,
  z55 := Try.sizeOf154,
  v55 := Try.zeroValue154,
  t66 := Try.underlying161,
  a66 := Try.isAgg161,
  z66 := Try.sizeOf161,
  v66 := Try.zeroValue161,
  t70 := Try.underlying165,
  a70 := Try.isAgg165,
  z70 := Try.sizeOf165,
  v70 := Try.zeroValue165,
  t76 := Try.underlying169,
  a76 := Try.isAgg169,
  z76 := Try.sizeOf169,
  v76 := Try.zeroValue169,
  t77 := Try.underlying170,
  a77 := Try.isAgg170,
  z77 := Try.sizeOf170,
  v77 := Try.zeroValue170 }

end Go.Proofs.Ytpgdobomcdpdbaa
