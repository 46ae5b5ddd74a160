/-
  Contracts of the slots' functions.
-/
import Derived.Test.YtmocljblfccglaaSlotMem
import Derived.Test.YtmocljblfccglaaSep
import Derived.Test.YtmocljblfccglaaHandles
namespace Go.Proofs.Ytmocljblfccglaa
open Go.RowKit


def freeB (x : Int × Bool) : Bool := !x.2 && decide (x.1 < 1000000)
/-- the first slot that is free, or -1 -/
def freeIx (ls : List (Int × Bool)) : Int := if ls.findIdx freeB < ls.length then (ls.findIdx freeB : Nat) else -1
theorem takeFree_any (x : Int) (b : Bool) (w : World) : Calls Try.prog 41 #[.agg #[.int .i64 x, .bool b]] w fun e w' => e = .returned (.bool (freeB (x, b))) ∧ Below w.heap.size w w' := by
  have hd : Hid (freeB (x, b) = (!b && decide (x < 1000000))) := rfl
  cases b
  all_goals
    go_enter Try.func41, Try.ntmps41
    go_wp2_with fail
    go_ret
    exact ⟨ret_bool (by rw [hd.out]; simp), (Below.refl _ _).alloc (Nat.le_refl _) _⟩

theorem new_any (w : World) : Calls Try.prog 22 #[] w fun e w' => e = .returned (.pointer (some ⟨w.heap.size, 0, none⟩)) ∧ SlotsAt w' w.heap.size [] (Plus (fun _ => False) w w') ∧ Below w.heap.size w w' := by
  go_enter Try.func22, Try.ntmps22
  go_wp2_with fail
  go_ret
  exact ⟨rfl, ⟨.slice none 0 0, Blk.new _ _ _, World.ownsRow_nil _ _ _ _, by simp [Value.ownBlock], Or.inr ⟨Nat.le_refl _, by simp⟩, fun k hk => by simp [Value.ownBlock] at hk⟩, (Below.refl _ _).alloc (Nat.le_refl _) _⟩

theorem slots_row {w : World} {B : Nat} {A : Option Addr} {c : Nat} {ls : List (Int × Bool)} (h : w.ownsRow B 78 2 (.slice A ls.length c) ls.length (ls.flatMap slotC)) {k : Nat} (hk : k < ls.length) :
    ∃ g, A = some ⟨g, 0, none⟩ ∧ row? w g (k * 2) 2 = some #[.int .i64 (ls.getD k (0, false)).1, .bool (ls.getD k (0, false)).2] := by
  obtain ⟨A', c', e, hc1, hc2, hA⟩ := own_form h
  obtain ⟨g, hg⟩ := hA (by omega)
  injection e with e1 e2 e3
  subst e1; subst hg
  have hgd : ls.getD k (0, false) = ls[k] := by simp [List.getD, List.getElem?_eq_getElem hk]
  have hr := own_row h hk
  rw [flat_at slotC_len ls k hk] at hr
  exact ⟨g, rfl, by rw [hgd]; exact hr⟩
theorem indexFree_any (A : Option Addr) (c : Nat) (ls : List (Int × Bool)) (w : World) (h : w.ownsRow 0 78 2 (.slice A ls.length c) ls.length (ls.flatMap slotC)) (hn : ls.length ≤ 1000000) :
    Calls Try.prog 40 #[.slice A ls.length c, .func (.func 41) #[] #[]] w fun e w' => e = .returned (.int .i64 (freeIx ls)) ∧ Below w.heap.size w w' := by
  have H := Lib.hid h
  clear h
  go_enter Try.func40, Try.ntmps40
  go_wp2_with fail
  go_loopw [8] (fun i w' => ∃ k : Nat, k ≤ ls.length ∧ i = .int .i64 k ∧ (∀ j, j < k → freeB (ls.getD j (0, false)) = false) ∧ Below w.heap.size w w') (fun i _ => ls.length - (intOf i).toNat)
  case atStart => exact ⟨0, by omega, rfl, fun j hj => by omega, Below.refl _ _⟩
  case round =>
    obtain ⟨k, hk, rfl, hbef, hb⟩ := hrel
    have HBEF := Lib.hid hbef
    have HBR := Lib.hid hb
    clear hbef hb
    by_cases hlt : k < ls.length
    · have hki : (k : Int) < ls.length := by omega
      obtain ⟨g, rfl, hrow⟩ := slots_row (own_below H.out HBR.out) hlt
      generalize hx : ls.getD k (0, false) = x at *
      obtain ⟨x, b⟩ := x
      have HX := Lib.hid hx
      clear hx
      go_wp2_with fail
      refine (takeFree_any x b _).mono ?_
      rintro e w1 ⟨rfl, hb1⟩
      have HB1 := Lib.hid (HBR.out.trans (hb1.mono HBR.out.size))
      clear hb1
      cases hF : freeB (x, b)
      · have HF := Lib.hid hF
        clear hF
        go_wp2_with fail
        go_roundw
        case rel =>
          refine ⟨k + 1, by omega, by go_num, fun j hj => ?_, HB1.out⟩
          by_cases hjk : j = k
          · rw [hjk, HX.out]; exact HF.out
          · exact HBEF.out j (by omega)
        case measure => simp [intOf]; omega
      · have HIX : Hid (freeIx ls = (k : Int)) := by
          have : ls.findIdx freeB = k := by
            rw [List.findIdx_eq hlt]
            have hgd : ls.getD k (0, false) = ls[k] := by simp [List.getD, List.getElem?_eq_getElem hlt]
            refine ⟨by rw [← hgd, HX.out]; exact hF, fun j hj => ?_⟩
            have := HBEF.out j hj
            simpa [List.getD, List.getElem?_eq_getElem (show j < ls.length by omega)] using this
          unfold Hid freeIx
          rw [this, if_pos hlt]
        clear hF
        go_wp2_with fail
        go_ret
        exact ⟨ret_int HIX.out.symm, HB1.out⟩
    · have HIX : Hid (freeIx ls = -1) := by
        unfold Hid freeIx
        rw [if_neg]
        intro hlt'
        have h1 := List.findIdx_getElem (w := hlt')
        have h2 := HBEF.out (ls.findIdx freeB) (by omega)
        simp only [List.getD, List.getElem?_eq_getElem hlt', Option.getD_some] at h2
        rw [h2] at h1; exact absurd h1 (by simp)
      go_wp2_with fail
      go_ret
      exact ⟨ret_int HIX.out.symm, HBR.out⟩

end Go.Proofs.Ytmocljblfccglaa
