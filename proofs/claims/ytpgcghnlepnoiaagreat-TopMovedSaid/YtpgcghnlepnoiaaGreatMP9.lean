/-
  Several texts in one (merged by a program of mine): SysIn, BatchMath.
-/
import Derived.Test.YtpgcghnlepnoiaaGreatMP8
set_option linter.unusedVariables false
set_option linter.unusedSimpArgs false
set_option linter.unusedSectionVars false
/-
  Slices of systems.
-/
namespace Go.Proofs.YtpgcghnlepnoiaaGreat
open Go.RowKit

def zeroSys : Sys := ⟨⟨0, 0, 0⟩, 0, 0, 0, 0⟩
/-- a slice of systems -/
def SysIn (w : World) (B : Nat) (A : Option Addr) (ss : List Sys) : Prop := Chunks w B 7 A (ss.map Sys.list)
theorem SysIn.at_ {w : World} {B : Nat} {A : Option Addr} {ss : List Sys} (h : SysIn w B A ss) {k : Nat} (hk : k < ss.length) :
    ∃ b o, A = some ⟨b, o, none⟩ ∧ b < B ∧ row? w b (o + k * 7) 7 = some (ints (ss.getD k zeroSys).list) := by
  obtain ⟨b, o, e, hlt, hr⟩ := Chunks.at_ h (k := k) (by simpa using hk)
  refine ⟨b, o, e, hlt, ?_⟩
  rw [hr, List.getElem_map]
  simp [List.getD, List.getElem?_eq_getElem hk]
theorem SysIn.below {w w' : World} {B : Nat} {A : Option Addr} {ss : List Sys} (h : SysIn w B A ss) (hb : Below B w w') : SysIn w' B A ss := Chunks.below h hb

/-- seven ints as a system -/
def toSys (r : List Int) : Sys := ⟨⟨r.getD 0 0, r.getD 1 0, r.getD 2 0⟩, r.getD 3 0, r.getD 4 0, r.getD 5 0, r.getD 6 0⟩
theorem toSys_list {r : List Int} (h : r.length = 7) : (toSys r).list = r := by
  match r, h with
  | [_, _, _, _, _, _, _], _ => rfl

end Go.Proofs.YtpgcghnlepnoiaaGreat

/-
  The plan of batches: no program in sight.
-/
namespace Go.Proofs.YtpgcghnlepnoiaaGreat
open Go.RowKit

def planAt (ss : List Sys) (p : List Int) (s : Sys) : Nat → Int
  | 0 => 0
  | k + 1 => if clashI s (ss.getD k zeroSys) then max (planAt ss p s k) (p.getD k 0 + 1) else planAt ss p s k
def planN (ss : List Sys) : Nat → List Int
  | 0 => []
  | i + 1 => planN ss i ++ [planAt ss (planN ss i) (ss.getD i zeroSys) i]
def planRes (ss : List Sys) : List Int × Int :=
  if 20 < ss.length then ([], 2) else if firstErr (ss.map sysErr) = 0 then (planN ss ss.length, 0) else ([], firstErr (ss.map sysErr))

theorem planN_len (ss : List Sys) : ∀ i, (planN ss i).length = i
  | 0 => rfl
  | i + 1 => by simp [planN, planN_len ss i]
theorem planAt_congr {ss : List Sys} {p q : List Int} {s : Sys} : ∀ i, (∀ k, k < i → p.getD k 0 = q.getD k 0) → planAt ss p s i = planAt ss q s i
  | 0, _ => rfl
  | i + 1, h => by
    unfold planAt
    rw [planAt_congr i fun k hk => h k (by omega), h i (by omega)]
theorem planN_pre (ss : List Sys) : ∀ n i, i ≤ n → ∀ k, k < i → (planN ss n).getD k 0 = (planN ss i).getD k 0
  | 0, i, h, k, hk => by omega
  | n + 1, i, h, k, hk => by
    by_cases hi : i = n + 1
    · rw [hi]
    · rw [← planN_pre ss n i (by omega) k hk]
      simp only [planN, List.getD, List.getElem?_append]
      rw [if_pos (by rw [planN_len]; omega)]
theorem planN_eq (ss : List Sys) (n i : Nat) (h : i < n) : (planN ss n).getD i 0 = planAt ss (planN ss n) (ss.getD i zeroSys) i := by
  rw [planN_pre ss n (i + 1) (by omega) i (by omega)]
  have : (planN ss (i + 1)).getD i 0 = planAt ss (planN ss i) (ss.getD i zeroSys) i := by
    simp [planN, List.getD, List.getElem?_append, planN_len]
  rw [this]
  exact planAt_congr i fun k hk => (planN_pre ss n i (by omega) k hk).symm
theorem planAt_ge {ss : List Sys} {p : List Int} {s : Sys} : ∀ i, 0 ≤ planAt ss p s i ∧ ∀ k, k < i → clashI s (ss.getD k zeroSys) = true → p.getD k 0 + 1 ≤ planAt ss p s i
  | 0 => ⟨by simp [planAt], fun k hk => by omega⟩
  | i + 1 => by
    obtain ⟨h1, h2⟩ := planAt_ge (ss := ss) (p := p) (s := s) i
    unfold planAt
    split
    · refine ⟨by omega, fun k hk hc => ?_⟩
      by_cases hi : k = i
      · subst hi; omega
      · have := h2 k (by omega) hc; omega
    · rename_i hn
      refine ⟨h1, fun k hk hc => ?_⟩
      by_cases hi : k = i
      · subst hi; exact absurd hc hn
      · exact h2 k (by omega) hc
theorem planAt_is {ss : List Sys} {p : List Int} {s : Sys} : ∀ i, planAt ss p s i = 0 ∨ ∃ k, k < i ∧ clashI s (ss.getD k zeroSys) = true ∧ planAt ss p s i = p.getD k 0 + 1
  | 0 => Or.inl rfl
  | i + 1 => by
    have ih := planAt_is (ss := ss) (p := p) (s := s) i
    unfold planAt
    split
    · rename_i hc
      by_cases hm : planAt ss p s i ≤ p.getD i 0 + 1
      · exact Or.inr ⟨i, by omega, hc, by omega⟩
      · rcases ih with h | ⟨k, hk, h1, h2⟩
        · rw [h] at hm ⊢
          exact Or.inl (by omega)
        · exact Or.inr ⟨k, by omega, h1, by omega⟩
    · rcases ih with h | ⟨k, hk, h1, h2⟩
      · exact Or.inl h
      · exact Or.inr ⟨k, by omega, h1, h2⟩
theorem plan_le (ss : List Sys) (n : Nat) : ∀ i, i < n → 0 ≤ (planN ss n).getD i 0 ∧ (planN ss n).getD i 0 ≤ i := by
  intro i
  induction i using Nat.strongRecOn with
  | ind i ih =>
    intro hi
    rw [planN_eq ss n i hi]
    refine ⟨(planAt_ge i).1, ?_⟩
    rcases planAt_is (ss := ss) (p := planN ss n) (s := ss.getD i zeroSys) i with h | ⟨k, hk, _, h⟩
    · omega
    · have := (ih k hk (by omega)).2; omega
theorem planAt_le (ss : List Sys) (i : Nat) (s : Sys) : ∀ k, k ≤ i → 0 ≤ planAt ss (planN ss i) s k ∧ planAt ss (planN ss i) s k ≤ k := by
  intro k hk
  refine ⟨(planAt_ge k).1, ?_⟩
  rcases planAt_is (ss := ss) (p := planN ss i) (s := s) k with h | ⟨j, hj, _, h⟩
  · omega
  · have := (plan_le ss i j (by omega)).2; omega

/-- what the law asks, at i: it is there that it is needed -/
def needAt (ss : List Sys) (p : List Int) (i : Nat) : Nat → Bool
  | 0 => p.getD i 0 == 0
  | k + 1 => needAt ss p i k || (clashI (ss.getD k zeroSys) (ss.getD i zeroSys) && p.getD k 0 == p.getD i 0 - 1)
theorem needAt_of {ss : List Sys} {p : List Int} {i : Nat} : ∀ k, (p.getD i 0 = 0 ∨ ∃ j, j < k ∧ clashI (ss.getD j zeroSys) (ss.getD i zeroSys) = true ∧ p.getD j 0 = p.getD i 0 - 1) → needAt ss p i k = true
  | 0, h => by
    rcases h with h | ⟨j, hj, _⟩
    · simp only [needAt, h]; rfl
    · omega
  | k + 1, h => by
    unfold needAt
    rcases h with h | ⟨j, hj, h1, h2⟩
    · rw [needAt_of k (Or.inl h), Bool.true_or]
    · by_cases hjk : j = k
      · subst hjk; rw [h1, h2]; simp
      · rw [needAt_of k (Or.inr ⟨j, by omega, h1, h2⟩), Bool.true_or]

theorem plan_law (ss : List Sys) (hs : ∀ s ∈ ss, sysErr s = 0) (hset : ∀ s : Sys, sysErr s = 0 → isSetB s.read = true ∧ isSetB s.write = true) (i : Nat) (hi : i < ss.length) :
    (∀ k, k < i → clashI (ss.getD k zeroSys) (ss.getD i zeroSys) = true → (planN ss ss.length).getD k 0 < (planN ss ss.length).getD i 0) ∧
    needAt ss (planN ss ss.length) i i = true ∧
    (∀ k, k < ss.length → k ≠ i → (planN ss ss.length).getD k 0 = (planN ss ss.length).getD i 0 → clashI (ss.getD k zeroSys) (ss.getD i zeroSys) = false) := by
  have hmem : ∀ k, k < ss.length → ss.getD k zeroSys ∈ ss := fun k hk => by simp [List.getD, List.getElem?_eq_getElem hk]
  have hcom : ∀ j k, j < ss.length → k < ss.length → clashI (ss.getD j zeroSys) (ss.getD k zeroSys) = clashI (ss.getD k zeroSys) (ss.getD j zeroSys) := by
    intro j k hj hk
    obtain ⟨a1, a2⟩ := hset _ (hs _ (hmem j hj))
    obtain ⟨b1, b2⟩ := hset _ (hs _ (hmem k hk))
    exact clash_comm b1 b2 a1 a2
  have hlt : ∀ i, i < ss.length → ∀ k, k < i → clashI (ss.getD k zeroSys) (ss.getD i zeroSys) = true → (planN ss ss.length).getD k 0 < (planN ss ss.length).getD i 0 := by
    intro i hi k hk hc
    rw [planN_eq ss ss.length i hi]
    have := (planAt_ge (ss := ss) (p := planN ss ss.length) (s := ss.getD i zeroSys) i).2 k hk (by rw [hcom i k hi (by omega)]; exact hc)
    omega
  refine ⟨hlt i hi, needAt_of i ?_, ?_⟩
  · have e := planN_eq ss ss.length i hi
    rcases planAt_is (ss := ss) (p := planN ss ss.length) (s := ss.getD i zeroSys) i with h | ⟨k, hk, h1, h2⟩
    · exact Or.inl (e.trans h)
    · refine Or.inr ⟨k, hk, by rw [hcom k i (by omega) hi]; exact h1, ?_⟩
      rw [e, h2]; omega
  · intro k hk hne hpe
    cases hc : clashI (ss.getD k zeroSys) (ss.getD i zeroSys) with
    | false => rfl
    | true =>
      exfalso
      rcases Nat.lt_or_gt_of_ne hne with h | h
      · have := hlt i hi k h hc; omega
      · have := hlt k hk i h (by rw [hcom i k hi hk]; exact hc); omega

theorem firstErr_all {ss : List Sys} (h : firstErr (ss.map sysErr) = 0) : ∀ s ∈ ss, sysErr s = 0 := by
  induction ss with
  | nil => simp
  | cons a l ih =>
    rw [List.map_cons, firstErr] at h
    split at h
    · rename_i h0
      intro s hs
      rcases List.mem_cons.1 hs with rfl | hs
      · exact h0
      · exact ih h s hs
    · rename_i h0; exact absurd h h0
theorem firstErr_at {ss : List Sys} {i : Nat} (hi : i < ss.length) (h : ∀ k, k < i → sysErr (ss.getD k zeroSys) = 0) (he : sysErr (ss.getD i zeroSys) ≠ 0) : firstErr (ss.map sysErr) = sysErr (ss.getD i zeroSys) := by
  induction ss generalizing i with
  | nil => simp at hi
  | cons a l ih =>
    cases i with
    | zero => simp only [List.getD_cons_zero] at he ⊢; rw [List.map_cons, firstErr, if_neg he]
    | succ i =>
      have h0 := h 0 (by omega)
      simp only [List.getD_cons_zero] at h0
      simp only [List.getD_cons_succ] at he ⊢
      rw [List.map_cons, firstErr, if_pos h0]
      exact ih (by simpa using hi) (fun k hk => by simpa using h (k + 1) (by omega)) he
theorem firstErr_none {ss : List Sys} (h : ∀ k, k < ss.length → sysErr (ss.getD k zeroSys) = 0) : firstErr (ss.map sysErr) = 0 := by
  induction ss with
  | nil => rfl
  | cons a l ih =>
    have h0 := h 0 (by simp)
    simp only [List.getD_cons_zero] at h0
    rw [List.map_cons, firstErr, if_pos h0]
    exact ih fun k hk => by simpa using h (k + 1) (by simpa using hk)

end Go.Proofs.YtpgcghnlepnoiaaGreat
