/-
  slices.IndexFunc and slices.ContainsFunc at []int with the two closures of slots.Load (printed by wip/gen_ixf.py).
-/
import Derived.Test.YtmocljblfccglaaSlotCalls5
namespace Go.Proofs.Ytmocljblfccglaa
open Go.RowKit

/-- the first place where p holds, or -1 -/
def ixOf (p : Int → Bool) (zs : List Int) : Int := if zs.findIdx p < zs.length then (zs.findIdx p : Nat) else -1
def anyOf (p : Int → Bool) (zs : List Int) : Bool := zs.any p
theorem ixOf_at {p : Int → Bool} {zs : List Int} {k : Nat} (hk : k < zs.length) (h : p zs[k] = true) (hb : ∀ j, j < k → p (zs.getD j 0) = false) : ixOf p zs = k := by
  have : zs.findIdx p = k := by
    rw [List.findIdx_eq hk]
    refine ⟨h, fun j hj => ?_⟩
    have := hb j hj
    simpa [List.getD, List.getElem?_eq_getElem (show j < zs.length by omega)] using this
  unfold ixOf; rw [this, if_pos hk]
theorem ixOf_none {p : Int → Bool} {zs : List Int} (hb : ∀ j, j < zs.length → p (zs.getD j 0) = false) : ixOf p zs = -1 := by
  unfold ixOf
  rw [if_neg]
  intro hlt
  have h1 := List.findIdx_getElem (w := hlt)
  have h2 := hb _ hlt
  simp only [List.getD, List.getElem?_eq_getElem hlt, Option.getD_some] at h2
  rw [h2] at h1; exact absurd h1 (by simp)
theorem ixOf_any (p : Int → Bool) (zs : List Int) : decide (0 ≤ ixOf p zs) = anyOf p zs := by
  unfold ixOf anyOf
  by_cases h : zs.findIdx p < zs.length
  · rw [if_pos h]
    have := List.findIdx_getElem (w := h)
    have h2 : zs.any p = true := List.any_eq_true.2 ⟨_, List.getElem_mem h, this⟩
    rw [h2]; simp
  · rw [if_neg h]
    have h2 : zs.any p = false := by
      rw [List.any_eq_false]
      intro x hx hp
      exact h (List.findIdx_lt_length_of_exists ⟨x, hx, hp⟩)
    rw [h2]; simp

def badGen (x : Int) : Bool := decide (x < 0) || decide (1000000 < x)
def badIx (n : Nat) (x : Int) : Bool := decide (x < 0) || decide ((n : Int) ≤ x)
theorem badGen_any (x : Int) (w : World) : Calls Try.prog 43 #[.int .i64 x] w fun e w' => e = .returned (.bool (badGen x)) ∧ w = w' := by
  by_cases h : x < 0
  · have hd : Hid (badGen x = true) := by simp [Hid, badGen, h]
    have h' : decide (x < 0) = true := by simpa using h
    go_enter Try.func43, Try.ntmps43
    go_wp2_with fail
    go_ret
    exact ⟨ret_bool hd.out.symm, rfl⟩
  · have hd : Hid (badGen x = decide (1000000 < x)) := by simp [Hid, badGen, h]
    have h' : decide (x < 0) = false := by simpa using h
    go_enter Try.func43, Try.ntmps43
    go_wp2_with fail
    go_ret
    exact ⟨ret_bool hd.out.symm, rfl⟩
theorem badIx_any (b : Nat) (A : Option Addr) (n c : Nat) (x : Int) (w : World) (hb : w.cell? ⟨b, 0, none⟩ = some (.slice A n c)) (hn : n ≤ 60) :
    Calls Try.prog 44 #[.int .i64 x, .pointer (some ⟨b, 0, none⟩)] w fun e w' => e = .returned (.bool (badIx n x)) ∧ w = w' := by
  by_cases h : x < 0
  · have hd : Hid (badIx n x = true) := by simp [Hid, badIx, h]
    have h' : decide (x < 0) = true := by simpa using h
    go_enter Try.func44, Try.ntmps44
    go_wp2_with fail
    go_ret
    exact ⟨ret_bool hd.out.symm, rfl⟩
  · have hd : Hid (badIx n x = decide ((n : Int) ≤ x)) := by simp [Hid, badIx, h]
    have h' : decide (x < 0) = false := by simpa using h
    go_enter Try.func44, Try.ntmps44
    go_wp2_with fail
    go_ret
    exact ⟨ret_bool hd.out.symm, rfl⟩

theorem indexFunc1_any (A : Option Addr) (c : Nat) (zs : List Int) (w : World) (h : ReadsI w w.heap.size A zs.length zs) (hn : zs.length ≤ maxLen) :
    Calls Try.prog 51 #[.slice A zs.length c, .func (.func 43) #[] #[]] w fun e w' => e = .returned (.int .i64 (ixOf badGen zs)) ∧ w = w' := by
  have H := Lib.hid h
  have hnm : (zs.length : Int) ≤ 9223372036854775807 := by unfold maxLen at hn; omega
  clear h
  go_enter Try.func51, Try.ntmps51
  go_wp2_with fail
  go_loopw [8] (fun i w' => ∃ k : Nat, k ≤ zs.length ∧ i = .int .i64 k ∧ (∀ j, j < k → badGen (zs.getD j 0) = false) ∧ w = w') (fun i _ => zs.length - (intOf i).toNat)
  case atStart => exact ⟨0, by omega, rfl, fun j hj => by omega, rfl⟩
  case round =>
    obtain ⟨k, hk, rfl, hbef, rfl⟩ := hrel
    have HBEF := Lib.hid hbef
    clear hbef
    by_cases hlt : k < zs.length
    · have hki : (k : Int) < zs.length := by omega
      obtain ⟨g, o, rfl, hgl, hlt', hcl⟩ := H.out.at_ hlt
      have hgd : Hid (zs.getD k 0 = zs[k]) := by simp [Hid, List.getD, List.getElem?_eq_getElem hlt]
      have hIX : Hid (badGen zs[k] = true → ixOf badGen zs = k) := fun h => ixOf_at hlt h HBEF.out
      generalize zs[k] = x at *
      go_wp2_with fail
      refine (badGen_any _ _).mono ?_
      rintro e w' ⟨rfl, rfl⟩
      cases hp : badGen x
      · have HP := Lib.hid hp
        clear hp hIX
        go_wp2_with fail
        go_roundw
        case rel =>
          refine ⟨k + 1, by omega, by go_num, fun j hj => ?_, trivial⟩
          by_cases hjk : j = k
          · rw [hjk, hgd.out]; exact HP.out
          · exact HBEF.out j (by omega)
        case measure => simp [intOf]; omega
      · have HIX : Hid (ixOf badGen zs = k) := hIX.out hp
        clear hp hIX
        go_wp2_with fail
        go_ret
        exact ⟨ret_int HIX.out.symm, rfl⟩
    · have hkn : k = zs.length := by omega
      subst hkn
      have HIX : Hid (ixOf badGen zs = -1) := ixOf_none HBEF.out
      go_wp2_with fail
      go_ret
      exact ⟨ret_int HIX.out.symm, rfl⟩
theorem containsFunc1_any (A : Option Addr) (c : Nat) (zs : List Int) (w : World) (h : ReadsI w w.heap.size A zs.length zs) (hn : zs.length ≤ maxLen) :
    Calls Try.prog 42 #[.slice A zs.length c, .func (.func 43) #[] #[]] w fun e w' => e = .returned (.bool (anyOf badGen zs)) ∧ w = w' := by
  have H := Lib.hid h
  have hd : Hid (decide (0 ≤ ixOf badGen zs) = anyOf badGen zs) := ixOf_any badGen zs
  clear h
  go_enter Try.func42, Try.ntmps42
  go_wp2_with fail
  refine (indexFunc1_any A c zs w H.out hn).mono ?_
  rintro e w' ⟨rfl, rfl⟩
  go_wp2_with fail
  go_ret
  exact ⟨ret_bool hd.out, rfl⟩

theorem indexFunc2_any (b m : Nat) (A2 : Option Addr) (c2 : Nat) (A : Option Addr) (c : Nat) (zs : List Int) (w : World) (hcell : w.cell? ⟨b, 0, none⟩ = some (.slice A2 m c2)) (hm : m ≤ 60) (h : ReadsI w w.heap.size A zs.length zs) (hn : zs.length ≤ maxLen) :
    Calls Try.prog 51 #[.slice A zs.length c, .func (.func 44) #[] #[.pointer (some ⟨b, 0, none⟩)]] w fun e w' => e = .returned (.int .i64 (ixOf (badIx m) zs)) ∧ w = w' := by
  have H := Lib.hid h
  have hnm : (zs.length : Int) ≤ 9223372036854775807 := by unfold maxLen at hn; omega
  clear h
  go_enter Try.func51, Try.ntmps51
  go_wp2_with fail
  go_loopw [8] (fun i w' => ∃ k : Nat, k ≤ zs.length ∧ i = .int .i64 k ∧ (∀ j, j < k → (badIx m) (zs.getD j 0) = false) ∧ w = w') (fun i _ => zs.length - (intOf i).toNat)
  case atStart => exact ⟨0, by omega, rfl, fun j hj => by omega, rfl⟩
  case round =>
    obtain ⟨k, hk, rfl, hbef, rfl⟩ := hrel
    have HBEF := Lib.hid hbef
    clear hbef
    by_cases hlt : k < zs.length
    · have hki : (k : Int) < zs.length := by omega
      obtain ⟨g, o, rfl, hgl, hlt', hcl⟩ := H.out.at_ hlt
      have hgd : Hid (zs.getD k 0 = zs[k]) := by simp [Hid, List.getD, List.getElem?_eq_getElem hlt]
      have hIX : Hid ((badIx m) zs[k] = true → ixOf (badIx m) zs = k) := fun h => ixOf_at hlt h HBEF.out
      generalize zs[k] = x at *
      go_wp2_with fail
      refine (badIx_any b A2 m c2 _ _ hcell hm).mono ?_
      rintro e w' ⟨rfl, rfl⟩
      cases hp : (badIx m) x
      · have HP := Lib.hid hp
        clear hp hIX
        go_wp2_with fail
        go_roundw
        case rel =>
          refine ⟨k + 1, by omega, by go_num, fun j hj => ?_, trivial⟩
          by_cases hjk : j = k
          · rw [hjk, hgd.out]; exact HP.out
          · exact HBEF.out j (by omega)
        case measure => simp [intOf]; omega
      · have HIX : Hid (ixOf (badIx m) zs = k) := hIX.out hp
        clear hp hIX
        go_wp2_with fail
        go_ret
        exact ⟨ret_int HIX.out.symm, rfl⟩
    · have hkn : k = zs.length := by omega
      subst hkn
      have HIX : Hid (ixOf (badIx m) zs = -1) := ixOf_none HBEF.out
      go_wp2_with fail
      go_ret
      exact ⟨ret_int HIX.out.symm, rfl⟩
theorem containsFunc2_any (b m : Nat) (A2 : Option Addr) (c2 : Nat) (A : Option Addr) (c : Nat) (zs : List Int) (w : World) (hcell : w.cell? ⟨b, 0, none⟩ = some (.slice A2 m c2)) (hm : m ≤ 60) (h : ReadsI w w.heap.size A zs.length zs) (hn : zs.length ≤ maxLen) :
    Calls Try.prog 42 #[.slice A zs.length c, .func (.func 44) #[] #[.pointer (some ⟨b, 0, none⟩)]] w fun e w' => e = .returned (.bool (anyOf (badIx m) zs)) ∧ w = w' := by
  have H := Lib.hid h
  have hd : Hid (decide (0 ≤ ixOf (badIx m) zs) = anyOf (badIx m) zs) := ixOf_any (badIx m) zs
  clear h
  go_enter Try.func42, Try.ntmps42
  go_wp2_with fail
  refine (indexFunc2_any b m A2 c2 A c zs w hcell hm H.out hn).mono ?_
  rintro e w' ⟨rfl, rfl⟩
  go_wp2_with fail
  go_ret
  exact ⟨ret_bool hd.out, rfl⟩

end Go.Proofs.Ytmocljblfccglaa
