/-
  A map as a list of keys and values: plain facts.
-/
import Derived.Below
namespace Go.Proofs.Ytpgdobomcdpdbaa

section
variable {κ ν : Type} [DecidableEq κ]
def mget (m : List (κ × ν)) (x : κ) : Option ν := (m.find? fun p => decide (p.1 = x)).map (·.2)
def mput (m : List (κ × ν)) (x : κ) (v : ν) : List (κ × ν) := if m.any (fun p => decide (p.1 = x)) then m.map (fun p => if p.1 = x then (x, v) else p) else m ++ [(x, v)]
def mdel (m : List (κ × ν)) (x : κ) : List (κ × ν) := m.filter fun p => !decide (p.1 = x)
def mkeys (m : List (κ × ν)) : List κ := m.map (·.1)

theorem mput_keys_of (m : List (κ × ν)) (x : κ) (v : ν) : mkeys (mput m x v) = if x ∈ mkeys m then mkeys m else mkeys m ++ [x] := by
  unfold mput mkeys
  have : (m.any fun p => decide (p.1 = x)) = decide (x ∈ m.map (·.1)) := by
    rw [Bool.eq_iff_iff]; simp
  rw [this]
  by_cases h : x ∈ m.map (·.1)
  · rw [if_pos (by simpa using h), if_pos h, List.map_map]
    apply List.map_congr_left
    intro p _
    simp only [Function.comp]
    split <;> simp_all
  · rw [if_neg (by simpa using h), if_neg h]; simp
theorem mput_nodup {m : List (κ × ν)} (h : (mkeys m).Nodup) (x : κ) (v : ν) : (mkeys (mput m x v)).Nodup := by
  rw [mput_keys_of]
  split
  · exact h
  · rename_i hx
    rw [List.nodup_append]
    exact ⟨h, by simp, fun a ha b hb e => hx (by rw [List.mem_singleton] at hb; rw [← hb, ← e]; exact ha)⟩
theorem mdel_nodup {m : List (κ × ν)} (h : (mkeys m).Nodup) (x : κ) : (mkeys (mdel m x)).Nodup := h.sublist (List.filter_sublist.map _)
theorem mem_mdel {m : List (κ × ν)} {x : κ} {p : κ × ν} : p ∈ mdel m x ↔ p ∈ m ∧ p.1 ≠ x := by simp [mdel]
theorem mget_none {m : List (κ × ν)} {x : κ} : mget m x = none ↔ x ∉ mkeys m := by
  unfold mget mkeys
  rw [Option.map_eq_none_iff, List.find?_eq_none]
  simp only [decide_eq_true_eq, List.mem_map, not_exists, not_and]
theorem mget_mem {m : List (κ × ν)} {x : κ} {v : ν} (h : mget m x = some v) : (x, v) ∈ m := by
  unfold mget at h
  obtain ⟨p, hp, rfl⟩ := Option.map_eq_some_iff.1 h
  have h1 := List.find?_some hp
  have h2 := List.mem_of_find?_eq_some hp
  have : p.1 = x := by simpa using h1
  rw [← this]; exact h2
theorem mget_of_mem {m : List (κ × ν)} (hn : (mkeys m).Nodup) {x : κ} {v : ν} (h : (x, v) ∈ m) : mget m x = some v := by
  induction m with
  | nil => simp at h
  | cons a m ih =>
    obtain ⟨h1, h2⟩ := List.nodup_cons.1 (show (a.1 :: mkeys m).Nodup from hn)
    unfold mget
    rw [List.find?_cons]
    rcases List.mem_cons.1 h with rfl | h'
    · simp
    · have hne : a.1 ≠ x := fun e => h1 (by rw [e]; exact List.mem_map.2 ⟨_, h', rfl⟩)
      rw [decide_eq_false hne]
      exact ih h2 h'
theorem mget_iff {m : List (κ × ν)} (hn : (mkeys m).Nodup) {x : κ} {v : ν} : mget m x = some v ↔ (x, v) ∈ m := ⟨mget_mem, mget_of_mem hn⟩
theorem mget_mput (m : List (κ × ν)) (x y : κ) (v : ν) : mget (mput m x v) y = if y = x then some v else mget m y := by
  unfold mput
  by_cases ha : (m.any fun p => decide (p.1 = x)) = true
  · rw [if_pos ha]
    by_cases hy : y = x
    · rw [if_pos hy]; subst hy
      obtain ⟨p, hp, hx⟩ := List.any_eq_true.1 ha
      clear ha
      induction m with
      | nil => simp at hp
      | cons a m ih =>
        unfold mget at ih ⊢
        rw [List.map_cons, List.find?_cons]
        by_cases h : a.1 = y
        · simp [h]
        · rw [if_neg h, decide_eq_false h]
          refine ih ?_
          rcases List.mem_cons.1 hp with rfl | h'
          · simp at hx; exact absurd hx h
          · exact h'
    · rw [if_neg hy]
      clear ha
      induction m with
      | nil => rfl
      | cons a m ih =>
        unfold mget at ih ⊢
        rw [List.map_cons, List.find?_cons, List.find?_cons]
        by_cases h : a.1 = x
        · have h2 : ¬ a.1 = y := fun e => hy (e.symm.trans h)
          have h3 : ¬ x = y := fun e => hy e.symm
          rw [if_pos h, decide_eq_false h2, decide_eq_false h3]
          exact ih
        · rw [if_neg h]
          split
          · rfl
          · exact ih
  · rw [if_neg ha]
    have hx : x ∉ mkeys m := fun h => ha (by
      obtain ⟨p, hp, e⟩ := List.mem_map.1 h
      exact List.any_eq_true.2 ⟨p, hp, by simpa using e⟩)
    unfold mget
    rw [List.find?_append]
    by_cases hy : y = x
    · rw [if_pos hy]; subst hy
      have := mget_none.2 hx
      unfold mget at this
      rw [Option.map_eq_none_iff] at this
      rw [this]; simp
    · rw [if_neg hy]
      have h3 : ¬ x = y := fun e => hy e.symm
      simp [h3]
theorem mget_mdel (m : List (κ × ν)) (x y : κ) : mget (mdel m x) y = if y = x then none else mget m y := by
  by_cases hy : y = x
  · rw [if_pos hy, mget_none]
    subst hy
    intro h
    obtain ⟨p, hp, e⟩ := List.mem_map.1 h
    exact (mem_mdel.1 hp).2 e
  · rw [if_neg hy]
    induction m with
    | nil => rfl
    | cons a m ih =>
      unfold mdel at ih ⊢
      rw [List.filter_cons]
      by_cases h : a.1 = x
      · have h2 : ¬ a.1 = y := fun e => hy (e.symm.trans h)
        rw [decide_eq_true h]
        simp only [Bool.not_true, Bool.false_eq_true, if_false]
        rw [ih]
        unfold mget
        rw [List.find?_cons, decide_eq_false h2]
      · rw [decide_eq_false h]
        simp only [Bool.not_false, if_true]
        unfold mget at ih ⊢
        rw [List.find?_cons, List.find?_cons]
        split
        · rfl
        · exact ih
theorem mput_len (m : List (κ × ν)) (x : κ) (v : ν) : (mput m x v).length ≤ m.length + 1 := by
  unfold mput; split <;> simp
theorem mdel_len (m : List (κ × ν)) (x : κ) : (mdel m x).length ≤ m.length := List.length_filter_le _ _
theorem mem_mput {m : List (κ × ν)} {x : κ} {v : ν} {p : κ × ν} (h : p ∈ mput m x v) : p = (x, v) ∨ (p ∈ m ∧ p.1 ≠ x) := by
  unfold mput at h
  split at h
  · obtain ⟨q, hq, e⟩ := List.mem_map.1 h
    split at e
    · exact Or.inl e.symm
    · rename_i hne; subst e; exact Or.inr ⟨hq, hne⟩
  · rename_i ha
    rw [List.mem_append] at h
    rcases h with h | h
    · exact Or.inr ⟨h, fun e => ha (List.any_eq_true.2 ⟨p, h, by simpa using e⟩)⟩
    · exact Or.inl (by simpa using h)
end

end Go.Proofs.Ytpgdobomcdpdbaa
