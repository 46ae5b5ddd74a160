/-
  slices.Index and slices.Contains at slots.
-/
import Derived.Test.YtmocljblfccglaaIxFunc
namespace Go.Proofs.Ytmocljblfccglaa
open Go.RowKit

def isSlot (a : Int) (b : Bool) (x : Int × Bool) : Bool := decide (a = x.1) && decide (b = x.2)
def slotIx (a : Int) (b : Bool) (ls : List (Int × Bool)) : Int := if ls.findIdx (isSlot a b) < ls.length then (ls.findIdx (isSlot a b) : Nat) else -1
def hasSlot (a : Int) (b : Bool) (ls : List (Int × Bool)) : Bool := ls.any (isSlot a b)
theorem slotIx_at {a : Int} {b : Bool} {ls : List (Int × Bool)} {k : Nat} (hk : k < ls.length) (h : isSlot a b (ls.getD k (0, false)) = true) (hb : ∀ j, j < k → isSlot a b (ls.getD j (0, false)) = false) : slotIx a b ls = k := by
  have : ls.findIdx (isSlot a b) = k := by
    rw [List.findIdx_eq hk]
    refine ⟨by simpa [List.getD, List.getElem?_eq_getElem hk] using h, fun j hj => ?_⟩
    have := hb j hj
    simpa [List.getD, List.getElem?_eq_getElem (show j < ls.length by omega)] using this
  unfold slotIx; rw [this, if_pos hk]
theorem slotIx_none {a : Int} {b : Bool} {ls : List (Int × Bool)} (hb : ∀ j, j < ls.length → isSlot a b (ls.getD j (0, false)) = false) : slotIx a b ls = -1 := by
  unfold slotIx
  rw [if_neg]
  intro hlt
  have h1 := List.findIdx_getElem (w := hlt)
  have h2 := hb _ hlt
  simp only [List.getD, List.getElem?_eq_getElem hlt, Option.getD_some] at h2
  rw [h2] at h1; exact absurd h1 (by simp)
theorem slotIx_any (a : Int) (b : Bool) (ls : List (Int × Bool)) : decide (0 ≤ slotIx a b ls) = hasSlot a b ls := by
  unfold slotIx hasSlot
  by_cases h : ls.findIdx (isSlot a b) < ls.length
  · rw [if_pos h]
    have := List.findIdx_getElem (w := h)
    have h2 : ls.any (isSlot a b) = true := List.any_eq_true.2 ⟨_, List.getElem_mem h, this⟩
    rw [h2]; simp
  · rw [if_neg h]
    have h2 : ls.any (isSlot a b) = false := by
      rw [List.any_eq_false]
      intro x hx hp
      exact h (List.findIdx_lt_length_of_exists ⟨x, hx, hp⟩)
    rw [h2]; simp

theorem slotIndex_any (A : Option Addr) (c : Nat) (ls : List (Int × Bool)) (a : Int) (b : Bool) (w : World) (h : w.ownsRow 0 78 2 (.slice A ls.length c) ls.length (ls.flatMap slotC)) (hn : ls.length ≤ 1000000) :
    Calls Try.prog 52 #[.slice A ls.length c, .agg #[.int .i64 a, .bool b]] w fun e w' => e = .returned (.int .i64 (slotIx a b ls)) ∧ Below w.heap.size w w' := by
  have H := Lib.hid h
  clear h
  go_enter Try.func52, Try.ntmps52
  go_upto_region 1 with (fail)
  refine wp_abs (fun w' => Blk w' w.heap.size 78 #[.int .i64 a, .bool b] ∧ Below w.heap.size w w') ⟨Blk.new _ _ _, (Below.refl _ _).alloc (Nat.le_refl _) _⟩ ?_
  rintro w1 ⟨hB1, hb1⟩
  have HB1 := Lib.hid hB1
  have HO1 := Lib.hid hb1
  clear hB1 hb1
  go_wp2_with fail
  go_loopw [8] (fun i w' => ∃ k : Nat, k ≤ ls.length ∧ i = .int .i64 k ∧ (∀ j, j < k → isSlot a b (ls.getD j (0, false)) = false) ∧ Below w1.heap.size w1 w') (fun i _ => ls.length - (intOf i).toNat)
  case atStart => exact ⟨0, by omega, rfl, fun j hj => by omega, Below.refl _ _⟩
  case round =>
    obtain ⟨k, hk, rfl, hbef, hb⟩ := hrel
    have HBEF := Lib.hid hbef
    have HBR : Hid (Below w.heap.size w wr) := HO1.out.trans (hb.mono HO1.out.size)
    have HB1r : Hid (Below w1.heap.size w1 wr) := hb
    have HBx := Lib.hid (HB1.out.after hb)
    clear hbef hb
    by_cases hlt : k < ls.length
    · have hki : (k : Int) < ls.length := by omega
      have hown := own_below H.out HBR.out
      obtain ⟨g, rfl, hrow⟩ := slots_row hown hlt
      have hgl := (hown.lt g rfl).2
      have hIX : Hid (isSlot a b (ls.getD k (0, false)) = true → slotIx a b ls = k) := fun h => slotIx_at hlt h HBEF.out
      have HX : Hid (isSlot a b (ls.getD k (0, false)) = isSlot a b (ls.getD k (0, false))) := rfl
      generalize hx : ls.getD k (0, false) = x at *
      obtain ⟨x, y⟩ := x
      have HXX := Lib.hid hx
      clear hx HX hown
      have c1 : ∀ n : After wr, row? n.w g (k * 2) 2 = some #[.int .i64 x, .bool y] := fun n => (row_below n.below hgl _ _).trans hrow
      have c2 : ∀ n : After wr, row? n.w w.heap.size 0 2 = some #[.int .i64 a, .bool b] := fun n => (HBx.out.after n.below).row 0 2 (Nat.le_refl 2)
      have heq : ∀ W, (binOp .eql 78 (.agg #[.int .i64 a, .bool b]) (.agg #[.int .i64 x, .bool y])).run Try.prog W = .ok (.bool (isSlot a b (x, y))) W := fun W => eql_slot a x b y W
      clear hrow
      cases hp : isSlot a b (x, y)
      all_goals
        have HP := Lib.hid hp
        rw [hp] at heq
        clear hp
        go_upto_region 4 with (fail)
        refine wp_region_after (by kernel_rfl) (by kernel_rfl) ?_
        repeat (go_big_quiet_step (fail))
        refine wpQuiet_nil ?_
        rintro _ ⟨n, rfl⟩
        go_wp2_with fail
      · go_roundw
        case rel =>
          refine ⟨k + 1, by omega, by go_num, fun j hj => ?_, HB1r.out.trans (n.below.mono HB1r.out.size)⟩
          by_cases hjk : j = k
          · rw [hjk, HXX.out]; exact HP.out
          · exact HBEF.out j (by omega)
        case measure => simp [intOf]; omega
      · have HIX : Hid (slotIx a b ls = k) := hIX.out HP.out
        go_ret
        exact ⟨ret_int HIX.out.symm, HBR.out.trans (n.below.mono HBR.out.size)⟩
    · have hkn : k = ls.length := by omega
      subst hkn
      have HIX : Hid (slotIx a b ls = -1) := slotIx_none HBEF.out
      go_wp2_with fail
      go_ret
      exact ⟨ret_int HIX.out.symm, HBR.out⟩

theorem hasSlot_any (A : Option Addr) (c : Nat) (ls : List (Int × Bool)) (a : Int) (b : Bool) (w : World) (h : w.ownsRow 0 78 2 (.slice A ls.length c) ls.length (ls.flatMap slotC)) (hn : ls.length ≤ 1000000) :
    Calls Try.prog 45 #[.slice A ls.length c, .agg #[.int .i64 a, .bool b]] w fun e w' => e = .returned (.bool (hasSlot a b ls)) ∧ Below w.heap.size w w' := by
  have H := Lib.hid h
  have hd : Hid (decide (0 ≤ slotIx a b ls) = hasSlot a b ls) := slotIx_any a b ls
  clear h
  go_enter Try.func45, Try.ntmps45
  go_upto_region 1 with (fail)
  refine wp_abs (fun w' => Blk w' w.heap.size 78 #[.int .i64 a, .bool b] ∧ Below w.heap.size w w') ⟨Blk.new _ _ _, (Below.refl _ _).alloc (Nat.le_refl _) _⟩ ?_
  rintro w1 ⟨hB1, hb1⟩
  have c1 : row? w1 w.heap.size 0 2 = some #[.int .i64 a, .bool b] := hB1.row 0 2 (Nat.le_refl 2)
  have HO1 := Lib.hid hb1
  clear hB1 hb1
  go_wp2_with fail
  refine (slotIndex_any A c ls a b w1 (own_below H.out HO1.out) hn).mono ?_
  rintro e w2 ⟨rfl, hb2⟩
  have HO2 : Hid (Below w.heap.size w w2) := HO1.out.trans (hb2.mono HO1.out.size)
  go_wp2_with fail
  go_ret
  exact ⟨ret_bool hd.out, HO2.out⟩

end Go.Proofs.Ytmocljblfccglaa
