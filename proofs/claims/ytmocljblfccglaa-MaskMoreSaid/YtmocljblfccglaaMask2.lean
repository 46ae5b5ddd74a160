/-
  The walks of MaskMore and MaskParts.
-/
import Derived.Test.YtmocljblfccglaaMask
import Derived.BigQuiet
import Derived.BigRegion
namespace Go.Proofs.Ytmocljblfccglaa
open Go.RowKit

set_option maxHeartbeats 4000000 in
theorem maskMore_any (m more a b c : Int) (ha : Fits a) (w : World) :
    Calls Try.prog 4 #[.int .i64 m, .int .i64 more, .agg #[.int .i64 a, .int .i64 b, .int .i64 c]] w fun e w' => e = .returned (.bool true) ∧ Below w.heap.size w w' := by
  have h1 : Hid (matchB m a 0 c = true → matchB (bits .or .i64 m more) a 0 c = true) := need_more ha
  have h2 : Hid (matchB (bits .or .i64 m more) 0 b 0 = true → matchB m 0 b 0 = true) := not_less
  clear ha
  go_enter Try.func4, Try.ntmps4
  go_wp2_with fail
  refine (masked_any _).mono ?_
  rintro e w1 ⟨rfl, hb1⟩
  have hz1 : w.heap.size < w1.heap.size := by have := hb1.size; simp at this; omega
  have hB : Hid (Below w.heap.size w w1) := ((Below.refl _ _).alloc (Nat.le_refl _) _).trans (hb1.mono (by simp))
  have hc0 : w1.cell? ⟨w.heap.size, 0, none⟩ = some (.int .i64 a) := by rw [hb1.cell (p := ⟨w.heap.size, 0, none⟩) (by simp)]; go_simp
  have hc1 : w1.cell? ⟨w.heap.size, 1, none⟩ = some (.int .i64 b) := by rw [hb1.cell (p := ⟨w.heap.size, 1, none⟩) (by simp)]; go_simp
  have hc2 : w1.cell? ⟨w.heap.size, 2, none⟩ = some (.int .i64 c) := by rw [hb1.cell (p := ⟨w.heap.size, 2, none⟩) (by simp)]; go_simp
  clear hb1
  go_wp2_with fail
  go_region
  all_goals
    trace "T"
    go_wp2_with fail
    refine (matches_any m a 0 c _).mono ?_
    rintro e w2 ⟨rfl, hb2⟩
    have hz2 : w1.heap.size + 2 ≤ w2.heap.size := by have := hb2.size; simp at this; omega
    have HB2 : Hid (Below w.heap.size w w2) := by
      refine Below.trans hB.out (Below.trans ?_ (hb2.mono (by simp; omega)))
      repeat (first | exact Below.refl _ _ | refine Below.alloc ?_ (by first | (simp; done) | (simp; omega) | omega) _ | refine Below.drew ?_)
    have hA := Lib.hid (blk2_below hb2)
    clear hb2 hB hc0 hc1 hc2
    obtain ⟨k0, k1, k2⟩ := hA.out.1.c3
    obtain ⟨l0, l1, l2⟩ := hA.out.2.c3
    by_cases hP : matchB m a 0 c = true
    · have hP' := Lib.hid (h1.out hP)
      rw [hP]
      clear hP
      go_wp2_with fail
      refine (matches_any _ a 0 c _).mono ?_
      rintro e w3 ⟨rfl, hb3⟩
      rw [hP'.out]
      have hz3 : w1.heap.size + 2 ≤ w3.heap.size := by have := hb3.size; omega
      have hA3 := Lib.hid (And.intro (hA.out.1.after hb3) (hA.out.2.after hb3))
      clear k0 k1 k2 l0 l1 l2
      obtain ⟨k0, k1, k2⟩ := hA3.out.1.c3
      obtain ⟨l0, l1, l2⟩ := hA3.out.2.c3
      have HB3 : Hid (Below w.heap.size w w3) := HB2.out.trans (hb3.mono (by omega))
      clear hb3
      go_wp2_with fail
      refine (matches_any _ 0 b 0 _).mono ?_
      rintro e w4 ⟨rfl, hb4⟩
      have hz4 : w1.heap.size + 2 ≤ w4.heap.size := by have := hb4.size; omega
      have hA4 := Lib.hid (And.intro (hA3.out.1.after hb4) (hA3.out.2.after hb4))
      clear k0 k1 k2 l0 l1 l2
      obtain ⟨k0, k1, k2⟩ := hA4.out.1.c3
      obtain ⟨l0, l1, l2⟩ := hA4.out.2.c3
      have HB4 : Hid (Below w.heap.size w w4) := HB3.out.trans (hb4.mono (by omega))
      clear hb4
      by_cases hQ : matchB (bits .or .i64 m more) 0 b 0 = true
      · have hQ' := Lib.hid (h2.out hQ)
        rw [hQ]
        clear hQ
        go_wp2_with fail
        refine (matches_any _ 0 b 0 _).mono ?_
        rintro e w5 ⟨rfl, hb5⟩
        rw [hQ'.out]
        go_wp2_with fail
        go_ret
        exact ⟨rfl, HB4.out.trans (hb5.mono (by omega))⟩
      · have hQ' : matchB (bits .or .i64 m more) 0 b 0 = false := by simpa using hQ
        rw [hQ']
        clear hQ hQ'
        go_wp2_with fail
        go_ret
        exact ⟨rfl, HB4.out⟩
    · have hP' : matchB m a 0 c = false := by simpa using hP
      rw [hP']
      clear hP hP'
      go_wp2_with fail
      refine (matches_any _ 0 b 0 _).mono ?_
      rintro e w4 ⟨rfl, hb4⟩
      have hz4 : w1.heap.size + 2 ≤ w4.heap.size := by have := hb4.size; omega
      have hA4 := Lib.hid (And.intro (hA.out.1.after hb4) (hA.out.2.after hb4))
      clear k0 k1 k2 l0 l1 l2
      obtain ⟨k0, k1, k2⟩ := hA4.out.1.c3
      obtain ⟨l0, l1, l2⟩ := hA4.out.2.c3
      have HB4 : Hid (Below w.heap.size w w4) := HB2.out.trans (hb4.mono (by omega))
      clear hb4
      by_cases hQ : matchB (bits .or .i64 m more) 0 b 0 = true
      · have hQ' := Lib.hid (h2.out hQ)
        rw [hQ]
        clear hQ
        go_wp2_with fail
        refine (matches_any _ 0 b 0 _).mono ?_
        rintro e w5 ⟨rfl, hb5⟩
        rw [hQ'.out]
        go_wp2_with fail
        go_ret
        exact ⟨rfl, HB4.out.trans (hb5.mono (by omega))⟩
      · have hQ' : matchB (bits .or .i64 m more) 0 b 0 = false := by simpa using hQ
        rw [hQ']
        clear hQ hQ'
        go_wp2_with fail
        go_ret
        exact ⟨rfl, HB4.out⟩

end Go.Proofs.Ytmocljblfccglaa
