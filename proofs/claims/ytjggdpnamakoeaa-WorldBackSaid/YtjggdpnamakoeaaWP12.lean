/-
  Several texts in one (merged by a program of mine): HasRow.
-/
import Derived.Test.YtjggdpnamakoeaaWP11
import Derived.Deep.DeepCutAuto
/-
  The contract of vivariumref.Has at api.Row (printed by wip/gen_has.py).
-/
namespace Go.Proofs.Ytjggdpnamakoeaa
open Go.RowKit

theorem hasRow_any (A : Option Addr) (c : Nat) (xs : List (List Int)) (x : List Int) (w : World) (h : Chunks w w.heap.size 11 A xs) (hl : xs.length ≤ maxLen) (hx : x.length = 11) :
    Calls Try.prog 19 #[.slice A xs.length c, .agg (ints x)] w fun e w' => e = .returned (.bool (decide (x ∈ xs))) ∧ Below w.heap.size w w' := by
  have H := Lib.hid h
  have hl' : (xs.length : Int) ≤ 9223372036854775807 := by unfold maxLen at hl; omega
  have hsx : Hid (∀ r ∈ xs, r.length = 11) := h.1
  clear h
  go_enter Try.func19, Try.ntmps19
  go_upto_region 1 with (fail)
  refine wp_abs (fun w' => Blk w' w.heap.size 37 (ints x) ∧ Below w.heap.size w w') ⟨Blk.new _ _ _, (Below.refl _ _).alloc (Nat.le_refl _) _⟩ ?_
  rintro w1 ⟨hB, hb⟩
  have HB := Lib.hid hB
  have HBE := Lib.hid hb
  clear hB hb
  obtain ⟨xb, hxb⟩ : ∃ xb, w.heap.size = xb := ⟨_, rfl⟩
  have HXB := Lib.hid hxb
  rw [hxb] at HB ⊢
  clear hxb
  go_wp2_with fail
  go_loopw [9] (fun i w' => ∃ k : Nat, k ≤ xs.length ∧ i = .int .i64 k ∧ (∀ j, j < k → xs[j]? ≠ some x) ∧ Blk w' xb 37 (ints x) ∧ Below w.heap.size w w') (fun i _ => xs.length - (intOf i).toNat)
  case atStart => exact ⟨0, by omega, rfl, fun j hj => by omega, HB.out, HBE.out⟩
  case round =>
    clear HB HBE
    obtain ⟨k, hk, rfl, hbef, hB, hb⟩ := hrel
    have HBEF := Lib.hid hbef
    have HB := Lib.hid hB
    have HBR := Lib.hid hb
    clear hbef hB hb
    by_cases hlt : k < xs.length
    · have hki : (k : Int) < xs.length := by omega
      obtain ⟨b, o, rfl, hbl, hrow⟩ := (H.out.below HBR.out).at_ hlt
      have hex : Hid (xs[k]? = some xs[k]) := List.getElem?_eq_getElem hlt
      have hrx := hsx.out _ (List.getElem_mem hlt)
      generalize xs[k] = y at *
      go_upto_region 4 with (fail)
      refine wp_abs (fun w' => Blk w' wr.heap.size 37 (ints y) ∧ Blk w' xb 37 (ints x) ∧ Below w.heap.size w w') ⟨blk_new_put wr 37 [0, 0, 0, 0, 0, 0, 0, 0, 0, 0, 0] _ hrx, HB.out.after (below_new_put wr 37 [0, 0, 0, 0, 0, 0, 0, 0, 0, 0, 0] _), HBR.out.trans ((below_new_put wr 37 [0, 0, 0, 0, 0, 0, 0, 0, 0, 0, 0] _).mono HBR.out.size)⟩ ?_
      generalize wr.heap.size = yb
      rintro w2 ⟨hy2, hx2, hb2⟩
      have HB2 := Lib.hid hb2
      have HX2 := Lib.hid hx2
      have c1 : row? w2 yb 0 11 = some (ints y) := hy2.row_all hrx
      have c2 : row? w2 xb 0 11 = some (ints x) := hx2.row_all hx
      have hn : ∀ W, (binOp .eql 37 (.agg (ints x)) (.agg (ints y))).run Try.prog W = .ok (.bool (decide (x = y))) W := eql_row x y hx hrx
      clear hy2 hx2 hb2 hrow
      by_cases he : x = y
      · have hd : (decide (x = y)) = true := by simpa using he
        rw [hd] at hn
        have HD : Hid (decide (x ∈ xs) = true) := by
          unfold Hid; rw [decide_eq_true_eq, he]; exact List.mem_of_getElem? hex.out
        clear he hex hd
        go_wp2_with fail
        go_ret
        exact ⟨ret_bool HD.out.symm, HB2.out⟩
      · have hd : (decide (x = y)) = false := by simpa using he
        rw [hd] at hn
        have HNE : Hid (xs[k]? ≠ some x) := by unfold Hid; rw [hex.out]; intro e; exact he (Option.some.inj e).symm
        clear he hex hd
        go_wp2_with fail
        go_roundw
        case rel =>
          refine ⟨k + 1, by omega, by go_num, fun j hj => ?_, HX2.out, HB2.out⟩
          by_cases hjk : j = k
          · rw [hjk]; exact HNE.out
          · exact HBEF.out j (by omega)
        case measure => simp [intOf]; omega
    · have HD : Hid (decide (x ∈ xs) = false) := by
        unfold Hid; rw [decide_eq_false_iff_not]
        intro hm
        obtain ⟨j, hj⟩ := List.getElem?_of_mem hm
        exact HBEF.out j (by have := (List.getElem?_eq_some_iff.1 hj).1; omega) hj
      go_wp2_with fail
      go_ret
      exact ⟨ret_bool HD.out.symm, HBR.out⟩

end Go.Proofs.Ytjggdpnamakoeaa
