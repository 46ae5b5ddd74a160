/-
  Several texts in one (merged by a program of mine): ReverseOwn, SlotMath2.
-/
import Derived.Test.YtpgcghnlepnoiaaGreatDoorTP20
import Derived.Shelf.SlicesQ.Reverse
set_option linter.unusedVariables false
set_option linter.unusedSimpArgs false
set_option linter.unusedSectionVars false
/-
  slices.Reverse of a slice of structs of the call's own, among other things in memory.
-/
namespace Go.Proofs.YtpgcghnlepnoiaaGreatDoor
open Go.RowKit Go.Shelf Go.Sort

section
variable {α : Type} [Inhabited α] {enc : α → List Value} {k : Nat} {ρ : Ren} {G : Nat → Prop} {w0 w : World} {l : List Assn} {v : Value} {xs : List α}
theorem sorted_none (enc : α → List Value) (k : Nat) (w : World) (g m : Nat) (d : Array α) : putRowK enc k (Sort.ahead w m) g 0 d = sortWorldK enc k w g 0 m d #[] := by
  unfold sortWorldK
  exact (grow_empty _).symm
theorem reverse_in (L : SlLaysE0.n35 Tryz.prog ρ) (aE : ∀ w, (isAgg (ρ.t 23)).run Tryz.prog w = .ok true w) (zE : ∀ w, (Go.sizeOf (ρ.t 23)).run Tryz.prog w = .ok k w) (hk : ∀ x, (enc x).length = k) (h1 : ∀ x, ∀ u ∈ enc x, u.oneCell' = true) (E : TypeId)
    (h : In G w0 (RowA E k v xs.length (xs.flatMap enc) :: l) w) (hl : xs.length ≤ 1099511627776) :
    Calls Tryz.prog (ρ.f 35) #[v] w fun e w' => e = .returned (.tuple #[]) ∧ In G w0 (RowA E k v xs.reverse.length (xs.reverse.flatMap enc) :: l) w' := by
  obtain ⟨F1, ⟨hA, hF⟩, _, hback⟩ := h.open_
  obtain ⟨A, c, rfl, hc1, hc2, hg⟩ := own_form hA
  by_cases h0 : xs.length = 0
  · have hx : xs = [] := List.eq_nil_of_length_eq_zero h0
    subst hx
    exact (AnyQ.slices_Reverse_empty L A c w).mono fun e w' ⟨he, hw⟩ => ⟨he, by rw [hw]; exact h⟩
  · obtain ⟨b, rfl⟩ := hg (by omega)
    have hcon := AnyQ.slices_Reverse L k aE zE enc hk h1 b 0 c xs.toArray w (holds_of_own hk hA) (by simp; omega)
    refine hcon.mono ?_
    rintro e w' ⟨he, n, rfl⟩
    have hd : xs.toArray.reverse.size = xs.length := by simp
    have hv : xs.toArray.reverse.toList = xs.reverse := by simp
    refine ⟨he, ?_⟩
    rw [sorted_none]
    refine hback (A' := RowA E k (.slice (some ⟨b, 0, none⟩) xs.length c) xs.reverse.length (xs.reverse.flatMap enc)) ⟨?_, fun q hq => Or.inl (hF q hq)⟩ ((only_sorted w b n _ #[]).mono fun q _ e => by subst e; exact hF _ rfl)
    have := own_sorted hk hA n xs.toArray.reverse hd #[]
    rw [hv] at this
    have e2 : xs.reverse.length = xs.length := List.length_reverse
    rw [e2] at this ⊢
    exact this
end

def revH_ren : Ren := ⟨fun | 35 => 93 | n => n, fun | 0 => 0 | 3 => 3 | 4 => 4 | 22 => 119 | 23 => 46 | n => n, fun n => n⟩
theorem revH_lay : SlLaysE0.n35 Tryz.prog revH_ren := {
  mixed := by kernel_rfl,
  f35 := ⟨Tryz.f93.name, by decide, Tryz.func93.trans (congrArg some (by kernel_rfl))⟩,
  t0 := Tryz.underlying0,
  a0 := Tryz.isAgg0,
  z0 := Tryz.sizeOf0,
  v0 := Tryz.zeroValue0,
  t3 := Tryz.underlying3,
  a3 := Tryz.isAgg3,
  z3 := Tryz.sizeOf3,
  v3 := Tryz.zeroValue3,
  t4 := Tryz.underlying4,
  a4 := Tryz.isAgg4,
  z4 := Tryz.sizeOf4,
  v4 := Tryz.zeroValue4,
  t22 := Tryz.underlying119,
  a22 := Tryz.isAgg119,
  z22 := Tryz.sizeOf119,
  v22 := Tryz.zeroValue119 }
theorem reverseH_in {G : Nat → Prop} {w0 w : World} {l : List Assn} {v : Value} {hs : List Hd} (h : In G w0 (RowH v hs :: l) w) (hl : hs.length ≤ 1099511627776) :
    Calls Tryz.prog 93 #[v] w fun e w' => e = .returned (.tuple #[]) ∧ In G w0 (RowH v hs.reverse :: l) w' :=
  reverse_in revH_lay Tryz.isAgg46 Tryz.sizeOf46 hC_len (fun x u hu => by
    simp [hC] at hu
    rcases hu with rfl | rfl <;> rfl) 46 h hl

end Go.Proofs.YtpgcghnlepnoiaaGreatDoor

/-
  Plain facts on slots for the laws SlotsLeast and SlotsNever: who is live, which slot is taken, what has ever been handed out.
-/
namespace Go.Proofs.YtpgcghnlepnoiaaGreatDoor

abbrev sl (ls : List (Int × Bool)) (k : Nat) : Int × Bool := ls.getD k (0, false)

theorem liveN_mem (ls : List (Int × Bool)) (h : Int × Int) : ∀ k, h ∈ liveN ls k ↔ ∃ j, j < k ∧ h = ((j : Int), (sl ls j).1) ∧ (sl ls j).2 = true
  | 0 => by simp [liveN]
  | k + 1 => by
    rw [liveN, List.mem_append, liveN_mem ls h k]
    constructor
    · rintro (⟨j, h1, h2⟩ | hx)
      · exact ⟨j, by omega, h2⟩
      · split at hx
        · rename_i hl
          exact ⟨k, by omega, List.mem_singleton.1 hx, hl⟩
        · cases hx
    · rintro ⟨j, h1, h2, h3⟩
      by_cases hj : j = k
      · right; subst hj; rw [if_pos h3, h2]; simp
      · exact Or.inl ⟨j, by omega, h2, h3⟩
theorem live_mem {ls : List (Int × Bool)} {h : Int × Int} : h ∈ liveHs ls ↔ ∃ j, j < ls.length ∧ h = ((j : Int), (sl ls j).1) ∧ (sl ls j).2 = true := liveN_mem ls h _
theorem liveN_count (ls : List (Int × Bool)) : ∀ k, k ≤ ls.length → (liveN ls k).length = (ls.take k).countP (·.2)
  | 0, _ => by simp [liveN]
  | k + 1, h => by
    rw [liveN, List.length_append, liveN_count ls k (by omega), List.take_succ_eq_append_getElem (by omega), List.countP_append, getD_at (by omega)]
    cases hc : ls[k].2 <;> simp [hc]
theorem live_count (ls : List (Int × Bool)) : (liveHs ls).length = ls.countP (·.2) := by
  unfold liveHs; rw [liveN_count ls _ (Nat.le_refl _), List.take_length]
theorem count_all {ls : List (Int × Bool)} (h : ∀ j, j < ls.length → (sl ls j).2 = true) : (liveHs ls).length = ls.length := by
  rw [live_count, List.countP_eq_length]
  intro x hx
  obtain ⟨j, hj, rfl⟩ := List.mem_iff_getElem.1 hx
  have := h j hj
  rwa [sl, getD_at hj] at this
theorem count_set {ls : List (Int × Bool)} {k : Nat} (hk : k < ls.length) (x : Int) (b : Bool) : (ls.set k (x, b)).countP (·.2) + (if (sl ls k).2 then 1 else 0) = ls.countP (·.2) + (if b then 1 else 0) := by
  have hd : ls = ls.take k ++ ls[k] :: ls.drop (k + 1) := by rw [← List.drop_eq_getElem_cons, List.take_append_drop]
  have hl : (ls.take k).length = k := by rw [List.length_take]; omega
  have e1 : ls.countP (·.2) = (ls.take k).countP (·.2) + ((ls.drop (k + 1)).countP (·.2) + if ls[k].2 then 1 else 0) := by
    conv => lhs; rw [hd]
    rw [List.countP_append, List.countP_cons]
  have e2 : (ls.set k (x, b)).countP (·.2) = (ls.take k).countP (·.2) + ((ls.drop (k + 1)).countP (·.2) + if b then 1 else 0) := by
    conv => lhs; rw [hd]
    rw [List.set_append_right _ _ (by omega), hl, Nat.sub_self, List.set_cons_zero, List.countP_append, List.countP_cons]
  rw [e1, e2, sl, getD_at hk]
  omega
theorem count_lt {ls : List (Int × Bool)} {k : Nat} (hk : k < ls.length) (hf : (sl ls k).2 = false) : (liveHs ls).length + 1 ≤ ls.length := by
  have h1 := count_set hk 0 true
  have h2 : (ls.set k (0, true)).countP (·.2) ≤ ls.length := by have := List.countP_le_length (p := fun x : Int × Bool => x.2) (l := ls.set k (0, true)); simpa using this
  rw [hf] at h1
  simp at h1
  rw [live_count]; omega

theorem take_cases {ls : List (Int × Bool)} (hb : ∀ x ∈ ls, x.1 < 1000000) :
    (∃ k, k < ls.length ∧ (sl ls k).2 = false ∧ (∀ j, j < k → (sl ls j).2 = true) ∧ takeR ls = (ls.set k ((sl ls k).1, true), ((k : Int), (sl ls k).1), 0)) ∨
    (∀ j, j < ls.length → (sl ls j).2 = true) ∧ ((ls.length = 60 ∧ takeR ls = (ls, (0, 0), 2)) ∨ (ls.length ≠ 60 ∧ takeR ls = (ls ++ [(0, true)], ((ls.length : Int), 0), 0))) := by
  have hlive : ∀ j, j < ls.length → freeB (sl ls j) = false → (sl ls j).2 = true := by
    intro j hj hf
    have hm := hb (sl ls j) (by rw [sl, getD_at hj]; exact List.getElem_mem hj)
    simp only [freeB, Bool.and_eq_false_iff, Bool.not_eq_false', decide_eq_false_iff_not] at hf
    rcases hf with h | h
    · exact h
    · omega
  by_cases hlt : ls.findIdx freeB < ls.length
  · left
    refine ⟨ls.findIdx freeB, hlt, ?_, fun j hj => ?_, by unfold takeR; rw [if_pos hlt]⟩
    · have hf := List.findIdx_getElem (w := hlt)
      rw [sl, getD_at hlt]
      simp only [freeB, Bool.and_eq_true, Bool.not_eq_true'] at hf
      exact hf.1
    · refine hlive j (by omega) ?_
      have := List.not_of_lt_findIdx hj
      rw [sl, getD_at (by omega)]
      simpa using this
  · right
    refine ⟨fun j hj => hlive j hj ?_, ?_⟩
    · have h1 : ∀ x ∈ ls, freeB x = false := by
        intro x hx
        cases hc : freeB x
        · rfl
        · exact absurd (List.findIdx_lt_length_of_exists ⟨x, hx, hc⟩) hlt
      rw [sl, getD_at hj]; exact h1 _ (List.getElem_mem hj)
    · by_cases h60 : ls.length = 60
      · exact Or.inl ⟨h60, by unfold takeR; rw [if_neg hlt, if_pos h60]⟩
      · exact Or.inr ⟨h60, by unfold takeR; rw [if_neg hlt, if_neg h60]⟩

theorem liveB_iff {ls : List (Int × Bool)} {k : Nat} (hk : k < ls.length) (b : Int) : liveB ls k b = (decide ((sl ls k).1 = b) && (sl ls k).2) := by
  unfold liveB
  rw [Int.toNat_natCast]
  have h1 : decide ((0 : Int) ≤ (k : Int)) = true := by simp
  have h2 : decide ((k : Int) < (ls.length : Nat)) = true := by simpa using hk
  rw [h1, h2]; rfl
theorem free_case {ls : List (Int × Bool)} {h : Int × Int} (hm : h ∈ liveHs ls) :
    ∃ k, k < ls.length ∧ h.1 = (k : Int) ∧ sl ls k = (h.2, true) ∧ freeR ls h.1 h.2 = (ls.set k (h.2 + 1, false), 0) ∧ freeR (ls.set k (h.2 + 1, false)) h.1 h.2 = (ls.set k (h.2 + 1, false), 7) := by
  obtain ⟨k, hk, rfl, hl⟩ := live_mem.1 hm
  refine ⟨k, hk, rfl, Prod.ext rfl hl, ?_, ?_⟩
  · unfold freeR
    rw [liveB_iff hk, hl]
    simp
  · unfold freeR
    rw [liveB_iff (by simpa using hk)]
    have : sl (ls.set k ((sl ls k).1 + 1, false)) k = ((sl ls k).1 + 1, false) := by simp [sl, List.getD, hk]
    rw [this]; simp
theorem pick_mem {hs : List (Int × Int)} (n : Int) (h : 0 < hs.length) : pick hs n ∈ hs := by
  obtain ⟨h0, h1⟩ := pick_at (hs := hs) n h
  unfold pick
  have : (n % (hs.length : Int)).toNat < hs.length := by omega
  simp only [List.getD, List.getElem?_eq_getElem this, Option.getD_some]
  exact List.getElem_mem this
theorem sl_set {ls : List (Int × Bool)} {k : Nat} (hk : k < ls.length) (y : Int × Bool) (j : Nat) : sl (ls.set k y) j = if j = k then y else sl ls j := by
  simp only [sl, List.getD, List.getElem?_set]
  by_cases h : k = j
  · subst h; simp [hk]
  · rw [if_neg h, if_neg (fun e => h e.symm)]

/-- generations rise by one at most -/
def GLe (ls : List (Int × Bool)) (b : Nat) : Prop := ∀ x ∈ ls, 0 ≤ x.1 ∧ x.1 ≤ b
theorem GLe.sl {ls : List (Int × Bool)} {b : Nat} (h : GLe ls b) {k : Nat} (hk : k < ls.length) : 0 ≤ (sl ls k).1 ∧ (sl ls k).1 ≤ b := by
  rw [Go.Proofs.YtpgcghnlepnoiaaGreatDoor.sl, getD_at hk]; exact h _ (List.getElem_mem hk)
theorem GLe.lt {ls : List (Int × Bool)} {b : Nat} (h : GLe ls b) (hb : b ≤ 1000) : ∀ x ∈ ls, x.1 < 1000000 := fun x hx => by have := (h x hx).2; omega
theorem GLe.take {ls : List (Int × Bool)} {b : Nat} (h : GLe ls b) (hb : b ≤ 1000) : GLe (takeR ls).1 (b + 1) := by
  intro x hx
  rcases take_cases (h.lt hb) with ⟨k, hk, _, _, e⟩ | ⟨_, ⟨_, e⟩ | ⟨_, e⟩⟩
  · rw [e] at hx
    rcases List.mem_or_eq_of_mem_set hx with hx | rfl
    · have := h x hx; omega
    · have := h.sl hk; simp only; omega
  · rw [e] at hx; have := h x hx; omega
  · rw [e] at hx
    rcases List.mem_append.1 hx with hx | hx
    · have := h x hx; omega
    · rw [List.mem_singleton.1 hx]; simp only; omega
theorem GLe.free {ls : List (Int × Bool)} {b : Nat} (h : GLe ls b) {y : Int × Int} (hm : y ∈ liveHs ls) : GLe (freeR ls y.1 y.2).1 (b + 1) := by
  obtain ⟨k, hk, h1, h2, h3, _⟩ := free_case hm
  rw [h3]
  intro x hx
  rcases List.mem_or_eq_of_mem_set hx with hx | rfl
  · have := h x hx; omega
  · have := h.sl hk; rw [h2] at this; simp only at this ⊢; omega

/-- SlotsLeast: as many slots as were ever live -/
theorem least_take {ls : List (Int × Bool)} {b : Nat} (h : GLe ls b) (hb : b ≤ 1000) (ht : (takeR ls).2.2 = 0) :
    (∀ j : Nat, (j : Int) < (takeR ls).2.1.1 → (j : Int) ∈ (liveHs ls).map (·.1)) ∧ 0 ≤ (takeR ls).2.1.1 ∧ (takeR ls).2.1.1 ≤ ls.length ∧ ((takeR ls).1.length = max ls.length ((liveHs ls).length + 1)) := by
  have hin : ∀ j, j < ls.length → (sl ls j).2 = true → ((j : Nat) : Int) ∈ (liveHs ls).map (·.1) := fun j hj hl => List.mem_map.2 ⟨_, live_mem.2 ⟨j, hj, rfl, hl⟩, rfl⟩
  rcases take_cases (h.lt hb) with ⟨k, hk, hf, hbel, e⟩ | ⟨hall, ⟨_, e⟩ | ⟨_, e⟩⟩
  · rw [e]
    refine ⟨fun j hj => hin j (by simp only at hj; omega) (hbel j (by simp only at hj; omega)), by simp, by simp only; omega, ?_⟩
    have := count_lt hk hf
    simp only [List.length_set]; omega
  · rw [e] at ht; simp at ht
  · rw [e]
    refine ⟨fun j hj => hin j (by simp only at hj; omega) (hall j (by simp only at hj; omega)), by simp, by simp, ?_⟩
    rw [count_all hall]; simp
theorem least_full {ls : List (Int × Bool)} {b : Nat} (h : GLe ls b) (hb : b ≤ 1000) (ht : (takeR ls).2.2 ≠ 0) : (takeR ls).2.2 = 2 ∧ (liveHs ls).length = 60 ∧ (takeR ls).1 = ls := by
  rcases take_cases (h.lt hb) with ⟨k, hk, hf, hbel, e⟩ | ⟨hall, ⟨h60, e⟩ | ⟨_, e⟩⟩
  · rw [e] at ht; simp at ht
  · rw [e]; exact ⟨rfl, by rw [count_all hall, h60], rfl⟩
  · rw [e] at ht; simp at ht
theorem free_len (ls : List (Int × Bool)) (a b : Int) : (freeR ls a b).1.length = ls.length := by
  unfold freeR; split <;> simp

/-- SlotsNever: what has ever been handed out; what of it was freed -/
def everB (ls : List (Int × Bool)) (a b : Int) : Bool := decide (0 ≤ a) && decide (a < ls.length) && decide (0 ≤ b) && (decide (b < (sl ls a.toNat).1) || decide (b = (sl ls a.toNat).1) && (sl ls a.toNat).2)
def freedB (ls : List (Int × Bool)) (a b : Int) : Bool := decide (0 ≤ a) && decide (a < ls.length) && decide (0 ≤ b) && decide (b < (sl ls a.toNat).1)
theorem everB_true {ls : List (Int × Bool)} {a b : Int} (h : everB ls a b = true) : freedB ls a b = !liveB ls a b := by
  simp only [everB, Bool.and_eq_true, Bool.or_eq_true, decide_eq_true_eq] at h
  obtain ⟨⟨⟨h1, h2⟩, h3⟩, h4⟩ := h
  unfold freedB liveB
  rw [decide_eq_true h1, decide_eq_true h2, decide_eq_true h3]
  simp only [Bool.true_and]
  rcases h4 with h4 | ⟨h4, h5⟩
  · rw [decide_eq_true h4, decide_eq_false (show ¬ (sl ls a.toNat).1 = b by omega)]; rfl
  · have : (List.getD ls a.toNat (0, false)).2 = true := h5
    rw [decide_eq_false (show ¬ b < (sl ls a.toNat).1 by omega), decide_eq_true (show (sl ls a.toNat).1 = b by omega), this]; rfl
theorem ever_set {ls : List (Int × Bool)} {k : Nat} (hk : k < ls.length) (hf : (sl ls k).2 = false) (h0 : 0 ≤ (sl ls k).1) (a b : Int) :
    everB (ls.set k ((sl ls k).1, true)) a b = (everB ls a b || decide (a = k ∧ b = (sl ls k).1)) ∧ freedB (ls.set k ((sl ls k).1, true)) a b = freedB ls a b := by
  unfold everB freedB
  rw [List.length_set]
  by_cases ha : 0 ≤ a
  · obtain ⟨j, rfl⟩ : ∃ j : Nat, a = j := ⟨a.toNat, by omega⟩
    rw [Int.toNat_natCast, sl_set hk]
    by_cases hj : j = k
    · subst hj
      rw [if_pos rfl]
      generalize sl ls j = y at *
      constructor
      · rw [Bool.eq_iff_iff]; simp [hf]; omega
      · rfl
    · rw [if_neg hj]
      constructor
      · rw [Bool.eq_iff_iff]; simp; intro e; exact absurd (by omega) hj
      · rfl
  · constructor
    · rw [Bool.eq_iff_iff]; simp; omega
    · rw [Bool.eq_iff_iff]; simp; omega
theorem ever_new (ls : List (Int × Bool)) (a b : Int) : everB (ls ++ [(0, true)]) a b = (everB ls a b || decide (a = ls.length ∧ b = 0)) ∧ freedB (ls ++ [(0, true)]) a b = freedB ls a b := by
  unfold everB freedB
  by_cases ha : 0 ≤ a
  · obtain ⟨j, rfl⟩ : ∃ j : Nat, a = j := ⟨a.toNat, by omega⟩
    rw [Int.toNat_natCast]
    rcases Nat.lt_trichotomy j ls.length with h | h | h
    · have : sl (ls ++ [(0, true)]) j = sl ls j := by simp [sl, List.getD, List.getElem?_append_left h]
      rw [this]
      generalize sl ls j = y at *
      have h1 : ¬ ((j : Int) = ls.length) := by omega
      have h2 : (j : Int) < ((ls ++ [((0 : Int), true)]).length : Nat) := by rw [List.length_append]; simp; omega
      have h3 : (j : Int) < (ls.length : Nat) := by omega
      rw [decide_eq_true h2, decide_eq_true h3]
      simp [h1]
    · subst h
      have : sl (ls ++ [(0, true)]) ls.length = (0, true) := by simp [sl, List.getD]
      rw [this]
      constructor
      · rw [Bool.eq_iff_iff]; simp; omega
      · rw [Bool.eq_iff_iff]; simp
    · constructor
      · rw [Bool.eq_iff_iff]; simp; omega
      · rw [Bool.eq_iff_iff]; simp; omega
  · constructor
    · rw [Bool.eq_iff_iff]; simp; omega
    · rw [Bool.eq_iff_iff]; simp; omega
theorem ever_free {ls : List (Int × Bool)} {k : Nat} {g : Int} (hk : k < ls.length) (hg : sl ls k = (g, true)) (h0 : 0 ≤ g) (a b : Int) :
    everB (ls.set k (g + 1, false)) a b = everB ls a b ∧ freedB (ls.set k (g + 1, false)) a b = (freedB ls a b || decide (a = k ∧ b = g)) := by
  unfold everB freedB
  rw [List.length_set]
  by_cases ha : 0 ≤ a
  · obtain ⟨j, rfl⟩ : ∃ j : Nat, a = j := ⟨a.toNat, by omega⟩
    rw [Int.toNat_natCast, sl_set hk]
    by_cases hj : j = k
    · subst hj
      rw [if_pos rfl, hg]
      constructor
      · rw [Bool.eq_iff_iff]; simp; omega
      · rw [Bool.eq_iff_iff]; simp; omega
    · rw [if_neg hj]
      constructor
      · rfl
      · rw [Bool.eq_iff_iff]; simp; intro e; exact absurd (by omega) hj
  · constructor
    · rw [Bool.eq_iff_iff]; simp; omega
    · rw [Bool.eq_iff_iff]; simp; omega

end Go.Proofs.YtpgcghnlepnoiaaGreatDoor
