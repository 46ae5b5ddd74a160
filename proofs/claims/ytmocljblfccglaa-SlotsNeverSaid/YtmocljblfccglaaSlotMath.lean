/-
  Plain facts on slots: what is taken, freed, listed, loaded.
-/
import Derived.Test.YtmocljblfccglaaSlotLoad
namespace Go.Proofs.Ytmocljblfccglaa

/-- slots that may be -/
def SOk (ls : List (Int × Bool)) : Prop := ls.length ≤ 60 ∧ ∀ x ∈ ls, 0 ≤ x.1 ∧ x.1 ≤ 1000000 ∧ (x.2 = true → x.1 < 1000000)
theorem SOk.gens {ls : List (Int × Bool)} (h : SOk ls) : GensOk ls := fun x hx => ⟨(h.2 x hx).1, (h.2 x hx).2.1⟩
theorem SOk.nil : SOk [] := ⟨by simp, by simp⟩
theorem getD_at {ls : List (Int × Bool)} {k : Nat} (h : k < ls.length) : ls.getD k (0, false) = ls[k] := by simp [List.getD, List.getElem?_eq_getElem h]
theorem take_ok {ls : List (Int × Bool)} (h : SOk ls) : SOk (takeR ls).1 := by
  unfold takeR
  split
  · rename_i hlt
    refine ⟨by simpa using h.1, fun x hx => ?_⟩
    rcases List.mem_or_eq_of_mem_set hx with hx | rfl
    · exact h.2 x hx
    · have hf := List.findIdx_getElem (w := hlt)
      rw [getD_at hlt]
      have := h.2 _ (List.getElem_mem hlt)
      simp only [freeB, Bool.and_eq_true, decide_eq_true_eq] at hf
      exact ⟨this.1, this.2.1, fun _ => hf.2⟩
  · split
    · exact h
    · rename_i hn
      have h1 := h.1
      refine ⟨by simp; omega, fun x hx => ?_⟩
      rcases List.mem_append.1 hx with hx | hx
      · exact h.2 x hx
      · rw [List.mem_singleton.1 hx]; exact ⟨by decide, by decide, fun _ => by decide⟩
theorem free_ok {ls : List (Int × Bool)} (h : SOk ls) (a b : Int) : SOk (freeR ls a b).1 := by
  unfold freeR
  split
  · rename_i hl
    obtain ⟨k, rfl, hk, hkb⟩ := live_true hl
    refine ⟨by simpa using h.1, fun x hx => ?_⟩
    rcases List.mem_or_eq_of_mem_set hx with hx | rfl
    · exact h.2 x hx
    · rw [getD_at hk] at hkb
      have := h.2 _ (List.getElem_mem hk)
      rw [hkb] at this
      have h3 := this.2.2 rfl
      exact ⟨by have := this.1; simp only at this ⊢; omega, by simp only at h3 ⊢; omega, fun h => by cases h⟩
  · exact h

theorem liveN_map (ls : List (Int × Bool)) : ∀ k, k ≤ ls.length → markN ((gensL ls).map fun g => (g, false)) ((liveN ls k).map (·.1)) = some (ls.take k ++ (ls.drop k).map fun x => (x.1, false))
  | 0, _ => by simp [liveN, markN, gensL_map]
  | k + 1, h => by
    rw [liveN, List.map_append, markN_append, liveN_map ls k (by omega), Option.bind_some, getD_at (by omega)]
    have hd : ls.drop k = ls[k] :: ls.drop (k + 1) := List.drop_eq_getElem_cons (by omega)
    have hl : (ls.take k).length = k := by rw [List.length_take]; omega
    rw [List.take_succ_eq_append_getElem (by omega), hd, List.map_cons]
    generalize ls[k] = x
    obtain ⟨g, b⟩ := x
    cases b
    · simp [markN]
    · simp only [if_true, List.map_cons, List.map_nil]
      unfold markN
      have e : (ls.take k ++ (g, false) :: (ls.drop (k + 1)).map fun x => (x.1, false)).getD (Int.toNat (k : Int)) (0, false) = (g, false) := by
        rw [Int.toNat_natCast]
        simp only [List.getD]
        rw [List.getElem?_append_right (by omega), hl, Nat.sub_self]; rfl
      rw [e]
      simp only [Bool.false_eq_true, if_false, markN, Option.some.injEq, Int.toNat_natCast]
      rw [List.set_append_right _ _ (by omega), hl, Nat.sub_self]
      simp
theorem load_back {ls : List (Int × Bool)} (h : SOk ls) : loadR (gensL ls) ((liveHs ls).map (·.1)) = (some ls, 0) := by
  unfold loadR
  have hlen : (gensL ls).length = ls.length := by rw [gensL_map]; simp
  have h60 := h.1
  have h1 : anyOf badGen (gensL ls) = false := by
    unfold anyOf
    rw [List.any_eq_false]
    intro x hx
    rw [gensL_map] at hx
    obtain ⟨y, hy, rfl⟩ := List.mem_map.1 hx
    have := h.2 y hy
    simp [badGen]; omega
  have hmem : ∀ k, ∀ x ∈ liveN ls k, 0 ≤ x.1 ∧ x.1 < k := by
    intro k
    induction k with
    | zero => simp [liveN]
    | succ k ih =>
      intro x hx
      rw [liveN] at hx
      rcases List.mem_append.1 hx with hx | hx
      · have := ih x hx; omega
      · split at hx
        · rw [List.mem_singleton.1 hx]; simp only; omega
        · cases hx
  have h2 : anyOf (badIx (gensL ls).length) ((liveHs ls).map (·.1)) = false := by
    unfold anyOf
    rw [List.any_eq_false]
    intro x hx
    obtain ⟨y, hy, rfl⟩ := List.mem_map.1 hx
    have := hmem _ y hy
    simp [badIx, hlen]; omega
  rw [if_neg (by rw [hlen]; omega), h1, h2]
  have h3 : markN ((gensL ls).map fun g => (g, false)) ((liveHs ls).map (·.1)) = some ls := by
    unfold liveHs
    rw [liveN_map ls _ (Nat.le_refl _)]; simp
  rw [h3]
  have h4 : hasSlot 1000000 true ls = false := by
    unfold hasSlot
    rw [List.any_eq_false]
    intro x hx
    have := h.2 x hx
    simp only [isSlot, Bool.and_eq_true, decide_eq_true_eq, not_and]
    intro e1 e2
    have := this.2.2 e2.symm
    omega
  simp [h4]

/-- one move of the laws: by an even number, or where none is live, one is taken; else one is freed -/
def pick (hs : List (Int × Int)) (n : Int) : Int × Int := hs.getD (n % hs.length).toNat (0, 0)
def takes (ls : List (Int × Bool)) (n : Int) : Bool := n.tmod 2 == 0 || (liveHs ls).length == 0
def moveS (ls : List (Int × Bool)) (n : Int) : List (Int × Bool) := if takes ls n then (takeR ls).1 else (freeR ls (pick (liveHs ls) n).1 (pick (liveHs ls) n).2).1
def playS (ls : List (Int × Bool)) (zs : List Int) : List (Int × Bool) := zs.foldl moveS ls
theorem move_ok {ls : List (Int × Bool)} (h : SOk ls) (n : Int) : SOk (moveS ls n) := by
  unfold moveS; split
  · exact take_ok h
  · exact free_ok h _ _
theorem play_ok : ∀ (zs : List Int) {ls : List (Int × Bool)}, SOk ls → SOk (playS ls zs)
  | [], _, h => h
  | n :: zs, _, h => play_ok zs (move_ok h n)
theorem play_snoc (ls : List (Int × Bool)) (zs : List Int) (n : Int) : playS ls (zs ++ [n]) = moveS (playS ls zs) n := by simp [playS]

/-- a move: what it comes to -/
theorem pick_at {hs : List (Int × Int)} (n : Int) (h : 0 < hs.length) : 0 ≤ n % (hs.length : Int) ∧ n % (hs.length : Int) < hs.length := ⟨Int.emod_nonneg _ (by omega), Int.emod_lt_of_pos _ (by omega)⟩

end Go.Proofs.Ytmocljblfccglaa
