/-
  The contract of system.Step.
-/
import Derived.Test.YtmocljblfccglaaDo
namespace Go.Proofs.Ytmocljblfccglaa
open Go.RowKit

theorem ret_bi {x : Beast × Int} {b : Beast} {n : Int} (h : x = (b, n)) : Ending.returned (.tuple #[.agg (ints b.list), .int .i64 n]) = .returned (.tuple #[.agg (ints x.1.list), .int .i64 x.2]) := by rw [h]

set_option maxHeartbeats 1000000 in
theorem step_any (b : Beast) (s : Sys) (hb : b.v.length = 8) (w : World) :
    Calls Try.prog 32 #[.agg (ints b.list), .agg (ints s.list)] w fun e w' => e = .returned (.tuple #[.agg (ints (stepRes b s).1.list), .int .i64 (stepRes b s).2]) ∧ Below w.heap.size w w' := by
  have HB := Lib.hid hb
  have hbl : b.list.length = 9 := by simp [Beast.list, hb]
  clear hb
  go_enter Try.func32, Try.ntmps32
  go_upto_region 1 with (fail)
  refine wp_abs (DoMem w w.heap.size b s) ?_ ?_
  · obtain ⟨h1, h2, h3⟩ := blk3 w 56 58 56 (ints b.list) (ints s.list) (ints [0, 0, 0, 0, 0, 0, 0, 0, 0])
    exact ⟨h1, h2, h3, (((Below.refl _ _).alloc (Nat.le_refl _) _).alloc (by simp) _).alloc (by simp; omega) _⟩
  intro w1 hM
  have frs : row? w1 (w.heap.size + 1) 0 7 = some (ints s.list) := hM.2.1.row_all rfl
  have HM := Lib.hid hM
  clear hM
  go_wp2_with fail
  refine (check_any s _).mono ?_
  rintro e w2 ⟨rfl, hb2⟩
  have HM2 := Lib.hid (HM.out.after hb2)
  clear hb2 HM frs
  have frs : row? w2 (w.heap.size + 1) 0 7 = some (ints s.list) := HM2.out.2.1.row_all rfl
  have frb : row? w2 w.heap.size 0 9 = some (ints b.list) := HM2.out.1.row_all hbl
  have ff : fits w2 (w.heap.size + 1 + 1) 0 9 = true := HM2.out.2.2.1.fits 0 9 (by decide)
  by_cases hs : sysErr s = 0
  · have HS := Lib.hid hs
    rw [hs]
    clear hs
    go_wp2_with fail
    refine (checkBeast_any b HB.out _).mono ?_
    rintro e w3 ⟨rfl, hb3⟩
    have HM3 := Lib.hid (HM2.out.after hb3)
    clear hb3 HM2 frs frb ff
    have frs : row? w3 (w.heap.size + 1) 0 7 = some (ints s.list) := HM3.out.2.1.row_all rfl
    have frb : row? w3 w.heap.size 0 9 = some (ints b.list) := HM3.out.1.row_all hbl
    have ff : fits w3 (w.heap.size + 1 + 1) 0 9 = true := HM3.out.2.2.1.fits 0 9 (by decide)
    by_cases he : beastErr b = 0
    · have HE := Lib.hid he
      have HR : Hid (stepRes b s = (doSys b s, 0)) := by unfold Hid stepRes; rw [if_pos HS.out, if_pos he]
      rw [he]
      clear he
      go_wp2_with fail
      refine (do_any b s HB.out HE.out HS.out _).mono ?_
      rintro e w4 ⟨rfl, hb4⟩
      have HM4 := Lib.hid (HM3.out.after hb4)
      clear hb4 HM3 frs frb ff
      have ff : fits w4 (w.heap.size + 1 + 1) 0 9 = true := HM4.out.2.2.1.fits 0 9 (by decide)
      have hdl : (doSys b s).list.length = 9 := by
        unfold doSys
        split
        · simp [Beast.list, outN_len, HB.out]
        · exact hbl
      go_wp2_with fail
      refine bodyPost_row_tmp rfl (w.heap.size + 1 + 1) 56 (ints (doSys b s).list) (.int .i64 0) _ rfl rfl (HM4.out.2.2.1.put_all _ hdl) Try.underlying56 rfl (by rw [ints_size, hdl]; exact beast_info) rfl ?_
      exact ⟨ret_bi HR.out, below_put HM4.out.2.2.2 (by omega) _ _⟩
    · have HR : Hid (stepRes b s = (zeroBeast, beastErr b)) := by unfold Hid stepRes; rw [if_pos HS.out, if_neg he]
      have he' : (beastErr b != 0) = true := by simpa using he
      clear he
      generalize beastErr b = E at *
      go_wp2_with fail
      refine bodyPost_row_tmp rfl (w.heap.size + 1 + 1) 56 (ints zeroBeast.list) (.int .i64 E) _ rfl rfl (HM3.out.2.2.1.put_all _ rfl) Try.underlying56 rfl beast_info rfl ?_
      exact ⟨ret_bi HR.out, below_put HM3.out.2.2.2 (by omega) _ _⟩
  · have HR : Hid (stepRes b s = (zeroBeast, sysErr s)) := by unfold Hid stepRes; rw [if_neg hs]
    have hs' : (sysErr s != 0) = true := by simpa using hs
    clear hs
    generalize sysErr s = E at *
    go_wp2_with fail
    refine bodyPost_row_tmp rfl (w.heap.size + 1 + 1) 56 (ints zeroBeast.list) (.int .i64 E) _ rfl rfl (HM2.out.2.2.1.put_all _ rfl) Try.underlying56 rfl beast_info rfl ?_
    exact ⟨ret_bi HR.out, below_put HM2.out.2.2.2 (by omega) _ _⟩

theorem stepRes_stepped : stepRes ⟨7, [1, 2, 3, 0, 0, 0, 0, 0]⟩ ⟨⟨0, 0, 0⟩, 0, 7, 3, 0⟩ = (⟨7, [2, 3, 1, 0, 0, 0, 0, 0]⟩, 0) := by rfl

end Go.Proofs.Ytmocljblfccglaa
