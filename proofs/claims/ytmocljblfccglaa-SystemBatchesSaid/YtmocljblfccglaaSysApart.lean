/-
  The contract of system.Clash, and the walk of the law SystemApart.
-/
import Derived.Test.YtmocljblfccglaaSysKeeps
import Derived.Test.YtmocljblfccglaaClashMath
namespace Go.Proofs.Ytmocljblfccglaa
open Go.RowKit

theorem clash_any (s t : Sys) (w : World) : Calls Try.prog 36 #[.agg (ints s.list), .agg (ints t.list)] w fun e w' => e = .returned (.bool (clashI s t)) ∧ Below w.heap.size w w' := by
  have hd : Hid (clashI s t = (bits .or .i64 (bits .and .i64 s.write (bits .or .i64 t.read t.write)) (bits .and .i64 t.write s.read) != 0)) := rfl
  go_enter Try.func36, Try.ntmps36
  go_upto_region 1 with (fail)
  obtain ⟨h1, h2⟩ := blk2 w 58 58 (ints s.list) (ints t.list)
  refine wp_abs (fun w' => Blk w' w.heap.size 58 (ints s.list) ∧ Blk w' (w.heap.size + 1) 58 (ints t.list) ∧ Below w.heap.size w w') ⟨h1, h2, ((Below.refl _ _).alloc (Nat.le_refl _) _).alloc (by simp) _⟩ ?_
  rintro w1 ⟨h1, h2, h3⟩
  have H3 := Lib.hid h3
  have c1 : w1.cell? ⟨w.heap.size, 3, none⟩ = some (.int .i64 s.read) := h1.cell 3
  have c2 : w1.cell? ⟨w.heap.size, 4, none⟩ = some (.int .i64 s.write) := h1.cell 4
  have c3 : w1.cell? ⟨w.heap.size + 1, 3, none⟩ = some (.int .i64 t.read) := h2.cell 3
  have c4 : w1.cell? ⟨w.heap.size + 1, 4, none⟩ = some (.int .i64 t.write) := h2.cell 4
  clear h1 h2 h3
  go_wp2_with fail
  go_ret
  exact ⟨ret_bool hd.out.symm, H3.out⟩

theorem After.row {W : World} {g n : Nat} {t : TypeId} {xs : List Int} (h : Blk W g t (ints xs)) (hn : xs.length = n) (a : After W) : row? a.w g 0 n = some (ints xs) := (h.after a.below).row_all hn

/-- a step where nothing is wrong -/
theorem step_done (b : Beast) (s : Sys) (hb : b.v.length = 8) (hs : sysErr s = 0) (he : beastErr b = 0) (w : World) :
    Calls Try.prog 32 #[.agg (ints b.list), .agg (ints s.list)] w fun e w' => e = .returned (.tuple #[.agg (ints (doSys b s).list), .int .i64 0]) ∧ Below w.heap.size w w' := by
  have h : stepRes b s = (doSys b s, 0) := by unfold stepRes; rw [if_pos hs, if_pos he]
  have := step_any b s hb w
  rw [h] at this
  exact this

/-- a beast and two systems in their boxes -/
def Box3 (w : World) (g : Nat) (b : Beast) (s t : Sys) (w1 : World) : Prop := Blk w1 g 56 (ints b.list) ∧ Blk w1 (g + 1) 58 (ints s.list) ∧ Blk w1 (g + 1 + 1) 58 (ints t.list) ∧ Below g w w1
theorem Box3.after {w w1 w2 : World} {g : Nat} {b : Beast} {s t : Sys} (h : Box3 w g b s t w1) (hb : Below w1.heap.size w1 w2) : Box3 w g b s t w2 :=
  ⟨h.1.after hb, h.2.1.after hb, h.2.2.1.after hb, h.2.2.2.trans (hb.mono (by have := h.1.lt; omega))⟩
theorem Box3.put {w w1 : World} {g : Nat} {b : Beast} {s t : Sys} (h : Box3 w g b s t w1) {g' : Nat} (hg : g + 1 + 1 < g') (xs : List Int) : Box3 w g b s t (putRow w1 g' 0 xs) :=
  ⟨h.1.put_far 0 xs (by omega), h.2.1.put_far 0 xs (by omega), h.2.2.1.put_far 0 xs (by omega), below_put h.2.2.2 (by omega) 0 xs⟩
theorem Box3.rows {w w1 : World} {g : Nat} {b : Beast} {s t : Sys} (h : Box3 w g b s t w1) (hb : b.list.length = 9) : row? w1 g 0 9 = some (ints b.list) ∧ row? w1 (g + 1) 0 7 = some (ints s.list) ∧ row? w1 (g + 1 + 1) 0 7 = some (ints t.list) :=
  ⟨h.1.row_all hb, h.2.1.row_all rfl, h.2.2.1.row_all rfl⟩

set_option maxHeartbeats 4000000 in
theorem systemApart_any (b : Beast) (s t : Sys) (hb : b.v.length = 8) (w : World) :
    Calls Try.prog 11 #[.agg (ints b.list), .agg (ints s.list), .agg (ints t.list)] w fun e w' => e = .returned (.bool true) ∧ Below w.heap.size w w' := by
  have HB := Lib.hid hb
  have hbl : b.list.length = 9 := by simp [Beast.list, hb]
  clear hb
  go_enter Try.func11, Try.ntmps11
  go_upto_region 1 with (fail)
  refine wp_abs (Box3 w w.heap.size b s t) ?_ ?_
  · obtain ⟨h1, h2, h3⟩ := blk3 w 56 58 58 (ints b.list) (ints s.list) (ints t.list)
    exact ⟨h1, h2, h3, (((Below.refl _ _).alloc (Nat.le_refl _) _).alloc (by simp) _).alloc (by simp; omega) _⟩
  intro w1 hM
  have HM := Lib.hid hM
  clear hM
  go_wp2_with fail
  refine (stepped_any _).mono ?_
  rintro e w2 ⟨rfl, hb2⟩
  have HM2 := Lib.hid (HM.out.after hb2)
  clear hb2 HM
  obtain ⟨frb, frs, frt⟩ := HM2.out.rows hbl
  go_wp2_with fail
  refine (check_any s _).mono ?_
  rintro e w3 ⟨rfl, hb3⟩
  have HM3 := Lib.hid (HM2.out.after hb3)
  clear hb3 HM2 frb frs frt
  obtain ⟨frb, frs, frt⟩ := HM3.out.rows hbl
  by_cases hs : sysErr s = 0
  rotate_left
  · have hs' : (sysErr s != 0) = true := by simpa using hs
    clear hs
    generalize sysErr s = E at *
    go_wp2_with fail
    go_ret
    exact ⟨rfl, HM3.out.2.2.2⟩
  have HS := Lib.hid hs
  rw [hs]
  clear hs
  go_wp2_with fail
  refine (check_any t _).mono ?_
  rintro e w4 ⟨rfl, hb4⟩
  have HM4 := Lib.hid (HM3.out.after hb4)
  clear hb4 HM3 frb frs frt
  obtain ⟨frb, frs, frt⟩ := HM4.out.rows hbl
  by_cases ht : sysErr t = 0
  rotate_left
  · have ht' : (sysErr t != 0) = true := by simpa using ht
    clear ht
    generalize sysErr t = E at *
    go_wp2_with fail
    go_ret
    exact ⟨rfl, HM4.out.2.2.2⟩
  have HT := Lib.hid ht
  rw [ht]
  clear ht
  go_wp2_with fail
  refine (checkBeast_any b HB.out _).mono ?_
  rintro e w5 ⟨rfl, hb5⟩
  have HM5 := Lib.hid (HM4.out.after hb5)
  clear hb5 HM4 frb frs frt
  by_cases he : beastErr b = 0
  rotate_left
  · have he' : (beastErr b != 0) = true := by simpa using he
    clear he
    generalize beastErr b = E at *
    go_wp2_with fail
    go_ret
    exact ⟨rfl, HM5.out.2.2.2⟩
  have HE := Lib.hid he
  rw [he]
  clear he
  have hcom : Hid (clashI t s = clashI s t ∧ (clashI s t = false → doSys (doSys b s) t = doSys (doSys b t) s)) := by
    have a := sysErr_ok HS.out
    have c := sysErr_ok HT.out
    exact ⟨clash_comm a.2.2.2.1 a.2.2.2.2.1 c.2.2.2.1 c.2.2.2.2.1, apart b s t HB.out a.2.2.2.1 a.2.2.2.2.1 c.2.2.2.1 c.2.2.2.2.1⟩
  have c1 := fun n : After w5 => n.row (n := 7) HM5.out.2.1 rfl
  have c2 := fun n : After w5 => n.row (n := 7) HM5.out.2.2.1 rfl
  go_upto_region 5 with (fail)
  refine wp_region_after (by kernel_rfl) (by kernel_rfl) ?_
  repeat (go_big_quiet_step (first
    | (go_at_call 36; with_reducible exact quiet_after (clash_any _ _ _))))
  refine wpQuiet_nil ?_
  rintro _ ⟨n, rfl⟩
  have HM6 := Lib.hid (HM5.out.after n.below)
  obtain ⟨frb, frs, frt⟩ := HM6.out.rows hbl
  rw [hcom.out.1]
  cases hC : clashI s t
  rotate_left
  · go_wp2_with fail
    refine (clash_any s t _).mono ?_
    rintro e w7 ⟨rfl, hb7⟩
    have HM7 := Lib.hid (HM6.out.after hb7)
    rw [hC]
    go_wp2_with fail
    go_ret
    exact ⟨rfl, HM7.out.2.2.2⟩
  have hap : Hid (doSys (doSys b s) t = doSys (doSys b t) s) := hcom.out.2 hC
  have HC := Lib.hid hC
  go_wp2_with fail
  refine (clash_any s t _).mono ?_
  rintro e w7 ⟨rfl, hb7⟩
  have HM7 := Lib.hid (HM6.out.after hb7)
  rw [HC.out]
  clear hb7 HM6 HM5 frb frs frt c1 c2 hC hcom
  obtain ⟨frb, frs, frt⟩ := HM7.out.rows hbl
  go_wp2_with fail
  refine (step_done b s HB.out HS.out HE.out _).mono ?_
  rintro e w8 ⟨rfl, hb8⟩
  have HM8 := Lib.hid (HM7.out.after hb8)
  clear hb8 HM7 frb frs frt
  have HXB : Hid ((doSys b s).v.length = 8) := (doSys_len b s).trans HB.out
  have HXE : Hid (beastErr (doSys b s) = 0) := doSys_ok b s HB.out HE.out
  have HYB : Hid ((doSys b t).v.length = 8) := (doSys_len b t).trans HB.out
  have HYE : Hid (beastErr (doSys b t) = 0) := doSys_ok b t HB.out HE.out
  have hx9 : (doSys b s).list.length = 9 := by simp [Beast.list, HXB.out]
  have hy9 : (doSys b t).list.length = 9 := by simp [Beast.list, HYB.out]
  generalize doSys b s = X at *
  go_upto_region 10 with (fail)
  refine wp_abs (fun w' => Box3 w w.heap.size b s t w' ∧ Blk w' w8.heap.size 56 (ints X.list)) ?_ ?_
  · exact ⟨HM8.out.after (below_new_put w8 56 [0, 0, 0, 0, 0, 0, 0, 0, 0] _), blk_new_put w8 56 [0, 0, 0, 0, 0, 0, 0, 0, 0] _ hx9⟩
  rintro w9 ⟨hM9, hX9⟩
  have hgx : w.heap.size + 1 + 1 < w8.heap.size := HM8.out.2.2.1.lt
  have HM9 := Lib.hid hM9
  have HX9 := Lib.hid hX9
  clear hM9 hX9 HM8
  generalize w8.heap.size = gx at *
  obtain ⟨frb, frs, frt⟩ := HM9.out.rows hbl
  have frx : row? w9 gx 0 9 = some (ints X.list) := HX9.out.row_all hx9
  go_wp2_with fail
  refine (step_done X t HXB.out HT.out HXE.out _).mono ?_
  rintro e w10 ⟨rfl, hb10⟩
  have HM10 := Lib.hid (HM9.out.after hb10)
  have HX10 := Lib.hid (HX9.out.after hb10)
  clear hb10 HM9 HX9 frb frs frt frx
  have HZB : Hid ((doSys X t).v.length = 8) := (doSys_len X t).trans HXB.out
  have hz9 : (doSys X t).list.length = 9 := by simp [Beast.list, HZB.out]
  have ffx : fits w10 gx 0 9 = true := HX10.out.fits 0 9 (by simp [ints_size, hx9])
  generalize doSys X t = Z at *
  go_upto_region 11 with (fail)
  refine wp_abs (fun w' => Box3 w w.heap.size b s t w' ∧ Blk w' gx 56 (ints Z.list)) ⟨HM10.out.put hgx _, HX10.out.put_all _ (hz9.trans hx9.symm)⟩ ?_
  rintro w11 ⟨hM11, hX11⟩
  have HM11 := Lib.hid hM11
  have HX11 := Lib.hid hX11
  clear hM11 hX11 HM10 HX10 ffx
  obtain ⟨frb, frs, frt⟩ := HM11.out.rows hbl
  go_wp2_with fail
  refine (step_done b t HB.out HT.out HE.out _).mono ?_
  rintro e w12 ⟨rfl, hb12⟩
  have HM12 := Lib.hid (HM11.out.after hb12)
  have HX12 := Lib.hid (HX11.out.after hb12)
  clear hb12 HM11 HX11 frb frs frt
  generalize doSys b t = Y at *
  go_upto_region 12 with (fail)
  refine wp_abs (fun w' => Box3 w w.heap.size b s t w' ∧ Blk w' gx 56 (ints Z.list) ∧ Blk w' w12.heap.size 56 (ints Y.list)) ?_ ?_
  · have hb := below_new_put w12 56 [0, 0, 0, 0, 0, 0, 0, 0, 0] Y.list
    exact ⟨HM12.out.after hb, HX12.out.after hb, blk_new_put w12 56 [0, 0, 0, 0, 0, 0, 0, 0, 0] _ hy9⟩
  rintro w13 ⟨hM13, hX13, hY13⟩
  have hgy : gx < w12.heap.size := HX12.out.lt
  have HM13 := Lib.hid hM13
  have HX13 := Lib.hid hX13
  have HY13 := Lib.hid hY13
  clear hM13 hX13 hY13 HM12 HX12
  generalize w12.heap.size = gy at *
  obtain ⟨frb, frs, frt⟩ := HM13.out.rows hbl
  have fry : row? w13 gy 0 9 = some (ints Y.list) := HY13.out.row_all hy9
  go_wp2_with fail
  refine (step_done Y s HYB.out HS.out HYE.out _).mono ?_
  rintro e w14 ⟨rfl, hb14⟩
  have HM14 := Lib.hid (HM13.out.after hb14)
  have HX14 := Lib.hid (HX13.out.after hb14)
  have HY14 := Lib.hid (HY13.out.after hb14)
  clear hb14 HM13 HX13 HY13 frb frs frt fry
  rw [← hap.out]
  have ffy : fits w14 gy 0 9 = true := HY14.out.fits 0 9 (by simp [ints_size, hy9])
  go_upto_region 13 with (fail)
  refine wp_abs (fun w' => Box3 w w.heap.size b s t w' ∧ Blk w' gx 56 (ints Z.list) ∧ Blk w' gy 56 (ints Z.list)) ⟨HM14.out.put (by omega) _, HX14.out.put_far 0 _ (by omega), HY14.out.put_all _ (hz9.trans hy9.symm)⟩ ?_
  rintro w15 ⟨hM15, hX15, hY15⟩
  have HM15 := Lib.hid hM15
  have frx : row? w15 gx 0 9 = some (ints Z.list) := hX15.row_all hz9
  have fry : row? w15 gy 0 9 = some (ints Z.list) := hY15.row_all hz9
  have heq : ∀ W, (binOp .eql 56 (.agg (ints Z.list)) (.agg (ints Z.list))).run Try.prog W = .ok (.bool true) W := fun W => by
    rw [eql_beast Z.list Z.list hz9 hz9 W]; simp
  clear hM15 hX15 hY15 HM14 HX14 HY14 ffy
  go_wp2_with fail
  go_ret
  exact ⟨rfl, HM15.out.2.2.2⟩

end Go.Proofs.Ytmocljblfccglaa
