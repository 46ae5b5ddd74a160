/-
  Contracts of All and Gens.
-/
import Derived.Test.YtmocljblfccglaaSlotCalls3
namespace Go.Proofs.Ytmocljblfccglaa
open Go.RowKit

/-- the handles of those of the first k slots that are live -/
def liveN (ls : List (Int × Bool)) : Nat → List (Int × Int)
  | 0 => []
  | k + 1 => liveN ls k ++ if (ls.getD k (0, false)).2 then [((k : Int), (ls.getD k (0, false)).1)] else []
def liveHs (ls : List (Int × Bool)) : List (Int × Int) := liveN ls ls.length
theorem liveN_len (ls : List (Int × Bool)) : ∀ k, (liveN ls k).length ≤ k
  | 0 => by simp [liveN]
  | k + 1 => by
    have := liveN_len ls k
    unfold liveN
    rw [List.length_append]
    split <;> simp <;> omega

theorem all_any (p : Nat) (ls : List (Int × Bool)) (F : Nat → Prop) (w : World) (h : SlotsAt w p ls F) (hl : ls.length ≤ 60) :
    Calls Try.prog 23 #[.pointer (some ⟨p, 0, none⟩)] w fun e w' => ∃ v, e = .returned v ∧ OwnH w' w.heap.size v (liveHs ls) ∧ Below w.heap.size w w' := by
  obtain ⟨A, c, f1, f2, f3, f4, f5, f6, f7⟩ := h.facts
  have F5 := Lib.hid f5
  clear f2 f5 f6 f7 h
  go_enter Try.func23, Try.ntmps23
  go_wp2_with fail
  go_loopw [11, 3] (fun i out w' => ∃ k : Nat, k ≤ ls.length ∧ i = .int .i64 k ∧ OwnH w' w.heap.size out (liveN ls k) ∧ Below w.heap.size w w') (fun i _ _ => ls.length - (intOf i).toNat)
  case atStart => exact ⟨0, by omega, rfl, OwnH.nil _ _, Below.refl _ _⟩
  case round =>
    clear f1
    obtain ⟨k, hk, rfl, hown, hb⟩ := hrel
    have HO := Lib.hid hown
    have HB := Lib.hid hb
    clear hown hb
    by_cases hlt : k < ls.length
    · have hki : (k : Int) < ls.length := by omega
      obtain ⟨g, rfl, hrow⟩ := slots_row (own_below F5.out HB.out) hlt
      have hN : Hid (liveN ls (k + 1) = liveN ls k ++ if (ls.getD k (0, false)).2 then [((k : Int), (ls.getD k (0, false)).1)] else []) := rfl
      have hlen := liveN_len ls k
      generalize ls.getD k (0, false) = x at *
      obtain ⟨x, b⟩ := x
      simp only at hrow
      go_upto_region 5 with (fail)
      refine wp_abs (fun w' => Blk w' wr.heap.size 78 #[.int .i64 x, .bool b] ∧ Below wr.heap.size wr w') ?_ ?_
      · rw [put2_set]
        have h0 : Blk (wr.alloc (.cells #[.int .i64 0, .bool false] 78)) wr.heap.size 78 #[.int .i64 0, .bool false] := Blk.new _ _ _
        have h1 := (h0.set 0 (.int .i64 x)).set 1 (.bool b)
        exact ⟨h1, (((Below.refl _ _).alloc (Nat.le_refl _) _).setCell (p := ⟨wr.heap.size, 0, none⟩) (Nat.le_refl _) _).setCell (p := ⟨wr.heap.size, 0 + 1, none⟩) (Nat.le_refl _) _⟩
      rintro w2 ⟨hs2, hb2⟩
      have c1 : w2.cell? ⟨wr.heap.size, 0, none⟩ = some (.int .i64 x) := hs2.cell 0
      have c2 : w2.cell? ⟨wr.heap.size, 1, none⟩ = some (.bool b) := hs2.cell 1
      have hown2 : OwnH w2 w.heap.size _ _ := HO.out.kept hb2
      have hbase := HB.out.size
      have HB2 := Lib.hid (HB.out.trans (hb2.mono HB.out.size))
      clear hs2 hb2 HO hrow
      cases b
      · rw [show (if (x, false).2 = true then [((k : Int), (x, false).1)] else []) = [] from rfl, List.append_nil] at hN
        go_wp2_with fail
        go_roundw
        case rel => exact ⟨k + 1, by omega, by go_num, hN.out.symm ▸ hown2, HB2.out⟩
        case measure => simp [intOf]; omega
      · rw [show (if (x, true).2 = true then [((k : Int), (x, true).1)] else []) = [((k : Int), x)] from rfl] at hN
        have hbase2 := HB2.out.size
        go_wp2_with (at_builtin; refine wpList_append_h rfl _ _ rfl w.heap.size _ (liveN ls k) rfl hown2 ((k : Int), x) rfl ?_ ?_ ?_)
        case refine_1 => omega
        case refine_2 => omega
        intro v' w3 hown3 _ hb3
        go_wp2_with fail
        go_roundw
        case rel => exact ⟨k + 1, by omega, by go_num, hN.out.symm ▸ hown3, HB2.out.trans hb3⟩
        case measure => simp [intOf]; omega
    · have : k = ls.length := by omega
      subst this
      go_wp2_with fail
      go_ret
      exact ⟨_, rfl, HO.out, HB.out⟩

end Go.Proofs.Ytmocljblfccglaa
