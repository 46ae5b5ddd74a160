/-
  Several texts in one (merged by a program of mine): MaskMath.
-/
import Derived.Test.YtpgcghnlepnoiaaGreatDoorTP1
import Derived.WalkKit
set_option linter.unusedVariables false
set_option linter.unusedSimpArgs false
set_option linter.unusedSectionVars false
/-
  Plain facts on sets of kinds: no program in sight.
-/
namespace Go.Proofs.YtpgcghnlepnoiaaGreatDoor
open Go.RowKit

/-- the kinds of a set, by its lowest eight bits -/
def kinds (m : Nat) : List Nat := (List.range 8).filter fun k => m.testBit k
/-- the number of trailing zeros -/
def tz8 (b : Nat) : Nat := (kinds b).headD 8
/-- without the lowest bit -/
def low (b : Nat) : Nat := b &&& (b - 1)

theorem kinds_step : ∀ b : Nat, b < 256 → b ≠ 0 → kinds b = tz8 b :: kinds (low b) ∧ low b < b := by
  have h : ∀ b : Fin 256, b.val ≠ 0 → kinds b.val = tz8 b.val :: kinds (low b.val) ∧ low b.val < b.val := by decide +kernel
  exact fun b hb => h ⟨b, hb⟩
theorem kinds_zero : kinds 0 = [] := by decide
theorem kinds_len (m : Nat) : (kinds m).length ≤ 8 := by
  have := List.length_filter_le (fun k => m.testBit k) (List.range 8)
  simpa [kinds] using this
theorem mem_kinds (m k : Nat) : k ∈ kinds m ↔ k < 8 ∧ m.testBit k = true := by simp [kinds]
theorem kinds_nodup (m : Nat) : (kinds m).Nodup := List.nodup_range.sublist List.filter_sublist

/-- the set of some kinds -/
def maskOf (l : List Int) : Nat := l.foldl (fun m k => m ||| 2 ^ k.toNat) 0

theorem maskOf_snoc (l : List Int) (k : Int) : maskOf (l ++ [k]) = maskOf l ||| 2 ^ k.toNat := by simp [maskOf]
theorem testBit_maskOf (l : List Int) (j : Nat) : (maskOf l).testBit j = true ↔ ∃ k ∈ l, k.toNat = j := by
  have h : ∀ (l : List Int) (m : Nat), (l.foldl (fun m k => m ||| 2 ^ k.toNat) m).testBit j = true ↔ m.testBit j = true ∨ ∃ k ∈ l, k.toNat = j := by
    intro l
    induction l with
    | nil => intro m; simp
    | cons a l ih =>
      intro m
      rw [List.foldl_cons, ih, Nat.testBit_or, Nat.testBit_two_pow]
      simp [or_assoc]
  rw [maskOf, h]
  simp
theorem maskOf_lt (l : List Int) (h : ∀ k ∈ l, 0 ≤ k ∧ k < 8) : maskOf l < 256 := by
  refine Nat.lt_pow_two_of_testBit (n := 8) _ fun i hi => ?_
  cases hb : (maskOf l).testBit i with
  | false => rfl
  | true =>
    obtain ⟨k, hk, rfl⟩ := (testBit_maskOf l i).1 hb
    have := h k hk
    omega

/-- what mask.Of answers: the set, and the error -/
def inKinds (l : List Int) : Bool := l.all fun k => decide (0 ≤ k) && decide (k < 8)
def ofRes (l : List Int) : Int × Int := if inKinds l then if l.Nodup then ((maskOf l : Nat), 0) else (0, 6) else (0, 1)

theorem inKinds_iff (l : List Int) : inKinds l = true ↔ ∀ k ∈ l, 0 ≤ k ∧ k < 8 := by simp [inKinds]

/-- a set and its kinds -/
theorem perm_maskOf (l : List Int) (h : ∀ k ∈ l, 0 ≤ k ∧ k < 8) (hn : l.Nodup) : (kinds (maskOf l)).Perm (l.map Int.toNat) := by
  refine (List.perm_ext_iff_of_nodup (kinds_nodup _) ?_).2 fun a => ?_
  · exact List.nodup_iff_pairwise_ne.2 (List.pairwise_map.2 ((List.nodup_iff_pairwise_ne.1 hn).imp_of_mem fun {a b} ha hb hne => by
      have := h a ha; have := h b hb; omega))
  · rw [mem_kinds, testBit_maskOf, List.mem_map]
    constructor
    · rintro ⟨_, k, hk, rfl⟩; exact ⟨k, hk, rfl⟩
    · rintro ⟨k, hk, rfl⟩; exact ⟨by have := h k hk; omega, k, hk, rfl⟩

theorem kinds_ofNat_range (m : Nat) : ∀ k ∈ (kinds m).map Int.ofNat, 0 ≤ k ∧ k < 8 := by
  intro k hk
  obtain ⟨j, hj, rfl⟩ := List.mem_map.1 hk
  have := ((mem_kinds m j).1 hj).1
  simp only [Int.ofNat_eq_natCast]
  omega
theorem ofRes_kinds (m : Nat) (hm : m < 256) : ofRes ((kinds m).map Int.ofNat) = (((m : Nat) : Int), 0) := by
  have h1 : inKinds ((kinds m).map Int.ofNat) = true := (inKinds_iff _).2 (kinds_ofNat_range m)
  have h2 : ((kinds m).map Int.ofNat).Nodup := by
    refine List.nodup_iff_pairwise_ne.2 (List.pairwise_map.2 ((List.nodup_iff_pairwise_ne.1 (kinds_nodup m)).imp fun {a b} hne => ?_))
    simp only [Int.ofNat_eq_natCast]; omega
  have h3 : maskOf ((kinds m).map Int.ofNat) = m := by
    refine Nat.eq_of_testBit_eq fun i => ?_
    by_cases hi : i < 8
    · rw [Bool.eq_iff_iff, testBit_maskOf]
      simp only [List.mem_map, mem_kinds]
      constructor
      · rintro ⟨_, ⟨a, ⟨_, h⟩, rfl⟩, rfl⟩; simpa using h
      · intro h; exact ⟨_, ⟨i, ⟨hi, h⟩, rfl⟩, rfl⟩
    · have e1 : m.testBit i = false := Nat.testBit_lt_two_pow (Nat.lt_of_lt_of_le hm (by rw [show (256 : Nat) = 2 ^ 8 from rfl]; exact Nat.pow_le_pow_right (by omega) (by omega)))
      have e2 : (maskOf ((kinds m).map Int.ofNat)).testBit i = false := Nat.testBit_lt_two_pow (Nat.lt_of_lt_of_le (maskOf_lt _ (kinds_ofNat_range m)) (by rw [show (256 : Nat) = 2 ^ 8 from rfl]; exact Nat.pow_le_pow_right (by omega) (by omega)))
      rw [e1, e2]
  simp [ofRes, h1, h2, h3]

theorem and_bit : ∀ (m k : Nat), m < 256 → k < 8 → bits .and .i64 ((m : Int) / 2 ^ k) 1 = if m.testBit k then 1 else 0 := by
  have h : ∀ (m : Fin 256) (k : Fin 8), bits .and .i64 ((m.val : Int) / 2 ^ k.val) 1 = if m.val.testBit k.val then 1 else 0 := by decide +kernel
  exact fun m k hm hk => h ⟨m, hm⟩ ⟨k, hk⟩
theorem or_bit : ∀ (m k : Nat), m < 256 → k < 8 → bits .or .i64 (m : Int) (wrap64 (2 ^ k)) = ((m ||| 2 ^ k : Nat) : Int) := by
  have h : ∀ (m : Fin 256) (k : Fin 8), bits .or .i64 (m.val : Int) (wrap64 (2 ^ k.val)) = ((m.val ||| 2 ^ k.val : Nat) : Int) := by decide +kernel
  exact fun m k hm hk => h ⟨m, hm⟩ ⟨k, hk⟩

end Go.Proofs.YtpgcghnlepnoiaaGreatDoor
