/-
  Several texts in one (merged by a program of mine): Checks, Checks2.
-/
import Derived.Test.YtjggdpnamakoeaaGreatOWP10
set_option linter.unusedVariables false
set_option linter.unusedSimpArgs false
set_option linter.unusedSectionVars false
/-
  Contracts of the checks: isSet, CheckBeast, CheckQuery, system.Check, and mask.Matches at a query.
-/
namespace Go.Proofs.YtjggdpnamakoeaaGreat
open Go.RowKit

theorem isSet_any (m : Int) (w : World) : Calls Tryz.prog 81 #[.int .i64 m] w fun e w' => e = .returned (.bool (isSetB m)) ∧ w = w' := by
  by_cases h : 0 ≤ m
  · have hv : Hid (isSetB m = decide (m ≤ 255)) := by simp [Hid, isSetB, h]
    go_enter Tryz.func81, Tryz.ntmps81
    go_wp2
    go_ret
    exact ⟨ret_bool hv.out.symm, rfl⟩
  · have hv : Hid (isSetB m = false) := by simp [Hid, isSetB, h]
    have h' : m < 0 := by omega
    clear h
    go_enter Tryz.func81, Tryz.ntmps81
    go_wp2
    go_ret
    exact ⟨ret_bool hv.out.symm, rfl⟩

theorem checkBeast_any (b : Beast) (hb : b.v.length = 8) (w : World) :
    Calls Tryz.prog 46 #[.agg (ints b.list)] w fun e w' => e = .returned (.int .i64 (beastErr b)) ∧ Below w.heap.size w w' := by
  have i0 : (ints b.list)[0]? = some (.int .i64 b.k) := rfl
  have hrow : row? (w.alloc (.cells (ints b.list) 39)) w.heap.size 1 8 = some (ints b.v) := by
    rw [(Blk.new w 39 (ints b.list)).row_ints 1 8 (by simp [Beast.list, hb])]
    simp [Beast.list, ← hb]
  have HB := Lib.hid hb
  clear hb
  by_cases hs : isSetB b.k = true
  · have hk : 0 ≤ b.k ∧ b.k ≤ 255 := by simpa [isSetB] using hs
    have hK : Hid (((b.k.toNat : Nat) : Int) = b.k) := by unfold Hid; omega
    have hK2 : b.k.toNat < 256 := by omega
    have hEN := Lib.hid (beastErr_none b hs)
    have hEA := Lib.hid (fun j hj => beastErr_at b j hj hs)
    go_enter Tryz.func46, Tryz.ntmps46
    go_wp2_with fail
    refine (isSet_any b.k _).mono ?_
    rintro e w' ⟨rfl, rfl⟩
    rw [hs]
    clear hs
    go_wp2_with fail
    go_loop [11] (fun i => ∃ k : Nat, k ≤ 8 ∧ i = .int .i64 k ∧ ∀ j, j < k → valErr b j = 0) (fun i => 8 - (intOf i).toNat)
    case atStart => exact ⟨0, by omega, rfl, by omega⟩
    case round =>
      obtain ⟨k, hk8, rfl, h0⟩ := hrel
      have H0 := Lib.hid h0
      clear h0
      by_cases hlt : k < 8
      · have hidx := index_vals b.v k hlt HB.out
        have hv : valErr b k = if b.k.toNat.testBit k = false ∧ b.v.getD k 0 ≠ 0 then 4 else if b.v.getD k 0 < -1000000000 ∨ 1000000000 < b.v.getD k 0 then 1 else 0 := rfl
        have hbit := and_bit b.k.toNat k hK2 hlt
        rw [hK.out] at hbit
        generalize b.v.getD k 0 = x at *
        have hE := fun he => hEA.out k hlt H0.out he
        cases hB : b.k.toNat.testBit k with
        | false =>
          rw [hB] at hv hbit
          have h1 : (bits BinOp.and IntKind.i64 (b.k / 2 ^ k) 1 == 0) = true := by rw [hbit]; rfl
          by_cases hx : x = 0
          · have h2 : (x != 0) = false := by simp [hx]
            have h3 : ¬ x < -1000000000 := by omega
            have h4 : ¬ 1000000000 < x := by omega
            have HN : Hid (∀ j, j < k + 1 → valErr b j = 0) := by
              intro j hj
              by_cases hjk : j = k
              · subst hjk; rw [hv]; simp [hx]
              · exact H0.out j (by omega)
            clear hx hv hbit hB hE
            go_wp2
            go_round
            case rel => exact ⟨k + 1, by omega, by go_num, HN.out⟩
            case measure => simp [intOf]; omega
          · have h2 : (x != 0) = true := by simpa using hx
            have HN : Hid (beastErr b = 4) := by
              unfold Hid
              have : valErr b k = 4 := by rw [hv]; simp [hx]
              rw [hE (by omega), this]
            clear hx hv hbit hB hE
            go_wp2
            go_ret
            exact ⟨ret_int HN.out.symm, (Below.refl _ _).alloc (Nat.le_refl _) _⟩
        | true =>
          rw [hB] at hv hbit
          have h1 : (bits BinOp.and IntKind.i64 (b.k / 2 ^ k) 1 == 0) = false := by rw [hbit]; rfl
          by_cases hx : x < -1000000000
          · have HN : Hid (beastErr b = 1) := by
              unfold Hid
              have : valErr b k = 1 := by rw [hv]; simp [hx]
              rw [hE (by omega), this]
            clear hv hbit hB hE
            go_wp2
            go_ret
            exact ⟨ret_int HN.out.symm, (Below.refl _ _).alloc (Nat.le_refl _) _⟩
          · by_cases hx2 : 1000000000 < x
            · have HN : Hid (beastErr b = 1) := by
                unfold Hid
                have : valErr b k = 1 := by rw [hv]; simp [hx2]
                rw [hE (by omega), this]
              clear hv hbit hB hE
              go_wp2
              go_ret
              exact ⟨ret_int HN.out.symm, (Below.refl _ _).alloc (Nat.le_refl _) _⟩
            · have HN : Hid (∀ j, j < k + 1 → valErr b j = 0) := by
                intro j hj
                by_cases hjk : j = k
                · subst hjk; rw [hv]; simp [hx, hx2]
                · exact H0.out j (by omega)
              clear hv hbit hB hE
              go_wp2
              go_round
              case rel => exact ⟨k + 1, by omega, by go_num, HN.out⟩
              case measure => simp [intOf]; omega
      · have hk' : k = 8 := by omega
        subst hk'
        have HN := Lib.hid (hEN.out H0.out)
        go_wp2
        go_ret
        exact ⟨ret_int HN.out.symm, (Below.refl _ _).alloc (Nat.le_refl _) _⟩
  · have hs' : isSetB b.k = false := by simpa using hs
    have HN : Hid (beastErr b = 1) := by unfold Hid beastErr; rw [if_neg hs]
    go_enter Tryz.func46, Tryz.ntmps46
    go_wp2_with fail
    refine (isSet_any b.k _).mono ?_
    rintro e w' ⟨rfl, rfl⟩
    rw [hs']
    clear hs hs'
    go_wp2_with fail
    go_ret
    exact ⟨ret_int HN.out.symm, (Below.refl _ _).alloc (Nat.le_refl _) _⟩

end Go.Proofs.YtjggdpnamakoeaaGreat

/-
  Contracts of CheckQuery and system.Check.
-/
namespace Go.Proofs.YtjggdpnamakoeaaGreat
open Go.RowKit

theorem matchQ_any (m : Int) (q : Query) (w : World) :
    Calls Tryz.prog 52 #[.int .i64 m, .agg (ints q.list)] w fun e w' => e = .returned (.bool (matchQ m q)) ∧ Below w.heap.size w w' := matches_any m q.need q.nt q.any w

theorem checkQuery_any (q : Query) (w : World) :
    Calls Tryz.prog 49 #[.agg (ints q.list)] w fun e w' => e = .returned (.int .i64 (queryErr q)) ∧ Below w.heap.size w w' := by
  have i0 : (ints q.list)[0]? = some (.int .i64 q.need) := rfl
  have i1 : (ints q.list)[1]? = some (.int .i64 q.nt) := rfl
  have i2 : (ints q.list)[2]? = some (.int .i64 q.any) := rfl
  have hdef : Hid (queryErr q = if isSetB q.need && isSetB q.nt && isSetB q.any then 0 else 1) := rfl
  cases ha : isSetB q.need <;> cases hb : isSetB q.nt <;> cases hc : isSetB q.any
  all_goals
    have HD := Lib.hid hdef.out
    rw [ha, hb, hc] at HD
    go_enter Tryz.func49, Tryz.ntmps49
    go_wp2_with fail
    refine (isSet_any _ _).mono ?_
    rintro e w' ⟨rfl, rfl⟩
    rw [ha]
    go_wp2_with fail
    try (refine (isSet_any _ _).mono ?_; rintro e w' ⟨rfl, rfl⟩; rw [hb]; go_wp2_with fail)
    try (refine (isSet_any _ _).mono ?_; rintro e w' ⟨rfl, rfl⟩; rw [hc]; go_wp2_with fail)
    go_ret
    exact ⟨ret_int HD.out.symm, (Below.refl _ _).alloc (Nat.le_refl _) _⟩


end Go.Proofs.YtjggdpnamakoeaaGreat
