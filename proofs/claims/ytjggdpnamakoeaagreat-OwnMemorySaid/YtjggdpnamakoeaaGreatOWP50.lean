/-
  Several texts in one (merged by a program of mine): ZooSame.
-/
import Derived.Test.YtjggdpnamakoeaaGreatOWP49
set_option linter.unusedVariables false
set_option linter.unusedSimpArgs false
set_option linter.unusedSectionVars false
/-
  The contract of vivariumref.Same, at two states that are one.
-/
namespace Go.Proofs.YtjggdpnamakoeaaGreat
open Go.RowKit

section
variable {G : Nat → Prop} {w0 w : World} {l : List Assn} {gv rv bv gv' rv' bv' : Value} {gs : List Int} {rs : List RowM} {bs : List (Hd × Hd)}
theorem In.fifthS {A B C D E : Assn} (h : In G w0 (A :: B :: C :: D :: E :: l) w) : In G w0 (E :: A :: B :: C :: D :: l) w := h.reorder 5 [4, 0, 1, 2, 3] rfl (by simp)
set_option maxHeartbeats 2000000 in
set_option maxRecDepth 100000 in
theorem same_in (h : In G w0 (IntsA gv gs :: RowsA rv rs :: RowB bv bs :: IntsA gv' gs :: RowsA rv' rs :: RowB bv' bs :: l) w) :
    Calls Tryz.prog 13 #[.agg #[gv, rv, bv], .agg #[gv', rv', bv']] w fun e w' => e = .returned (.bool true) ∧ Below w.heap.size w w' := by
  obtain ⟨A1, c1, rfl, hl1, hl2, _⟩ := own_form h.rowAt
  obtain ⟨A2, c2, rfl, hl3, hl4, _⟩ := own_form (h.nth 3 (by simp)).rowAt
  have hn : gs.length ≤ maxLen := by omega
  have H0 := Lib.hid h
  clear h hl1 hl2 hl3 hl4
  go_enter Tryz.func13, Tryz.ntmps13
  go_upto_region 1 with (fail)
  refine wp_abs (fun w' => Blk w' (w.heap.size + 1) 33 #[.slice A2 gs.length c2, rv', bv'] ∧ Blk w' w.heap.size 33 #[.slice A1 gs.length c1, rv, bv] ∧ Below w.heap.size w w') ⟨by
    have := Blk.new (w.alloc (.cells #[.slice A1 gs.length c1, rv, bv] 33)) 33 #[.slice A2 gs.length c2, rv', bv']
    rwa [World.size_alloc] at this, (Blk.new w _ _).alloc _, ((Below.refl _ _).alloc (Nat.le_refl _) _).alloc (by simp) _⟩ ?_
  generalize w.heap.size + 1 = s2
  generalize hs1 : w.heap.size = s1
  rintro w1 ⟨hB2, hB1, hb⟩
  have a0 : w1.cell? ⟨s1, 0, none⟩ = some (.slice A1 gs.length c1) := hB1.cell 0
  have a1 : w1.cell? ⟨s1, 1, none⟩ = some rv := hB1.cell 1
  have b0 : w1.cell? ⟨s2, 0, none⟩ = some (.slice A2 gs.length c2) := hB2.cell 0
  have b1 : w1.cell? ⟨s2, 1, none⟩ = some rv' := hB2.cell 1
  rw [← hs1] at hb
  have hI := H0.out.below hb
  have HEG := Lib.hid (eqG_in hn hI (hI.nth 3 (by simp)))
  have HER := Lib.hid (eqR_same (hI.nth 1 (by simp)) (hI.nth 4 (by simp)) rfl)
  have HB1 := Lib.hid hB1
  have HB2 := Lib.hid hB2
  have HB := Lib.hid hb
  clear hI hB1 hB2 hb
  go_wp2_with fail
  refine HEG.out.mono ?_
  rintro e w2 ⟨rfl, rfl⟩
  go_wp2_with fail
  refine HER.out.mono ?_
  rintro e w2 ⟨rfl, hb2⟩
  have hB3 : Below w.heap.size w w2 := HB.out.trans (hb2.mono HB.out.size)
  have a2 : w2.cell? ⟨s1, 2, none⟩ = some bv := (HB1.out.after hb2).cell 2
  have b2 : w2.cell? ⟨s2, 2, none⟩ = some bv' := (HB2.out.after hb2).cell 2
  have hI := H0.out.below hB3
  have hIB : In G w0 (RowB bv bs :: RowB bv' bs :: IntsA (.slice A1 gs.length c1) gs :: RowsA rv rs :: IntsA (.slice A2 gs.length c2) gs :: RowsA rv' rs :: l) w2 := hI.reorder 6 [2, 5, 0, 1, 3, 4] rfl (by simp)
  have HEB := Lib.hid (eqB_in hIB)
  have HB3 := Lib.hid hB3
  clear hI hIB hB3 hb2 HEG HER a0 a1 b0 b1
  go_wp2_with fail
  refine HEB.out.mono ?_
  rintro e w3 ⟨rfl, hb3⟩
  have HB4 : Hid (Below w.heap.size w w3) := HB3.out.trans (hb3.mono HB3.out.size)
  clear hb3
  simp only [decide_true]
  go_wp2_with fail
  go_ret
  exact ⟨rfl, HB4.out⟩
end

end Go.Proofs.YtjggdpnamakoeaaGreat
