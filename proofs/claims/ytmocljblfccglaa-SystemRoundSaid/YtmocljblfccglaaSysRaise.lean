/-
  The walk of the law SystemRaise.
-/
import Derived.Test.YtmocljblfccglaaSysKeeps
namespace Go.Proofs.Ytmocljblfccglaa
open Go.RowKit

/-- what is raised, and lowered again -/
theorem raise_back (b : Beast) (wr n : Int) (hb : b.v.length = 8) (hw : 0 ≤ wr ∧ wr ≤ 255) (hn : 0 ≤ n ∧ n ≤ 1000000) (he : beastErr b = 0) (k : Nat) (hk : k < 8) :
    (doSys (doSys b ⟨⟨0, 0, 0⟩, 0, wr, 1, n⟩) ⟨⟨0, 0, 0⟩, 0, wr, 1, -n⟩).v.getD k 0 = b.v.getD k 0 ∨ 1000000000 < b.v.getD k 0 + n := by
  have hq : ∀ m, matchQ m ⟨0, 0, 0⟩ = true := fun m => matches_none m
  have hwl : ∀ b' : Beast, b'.k = b.k → ∀ m, wl b' ⟨⟨0, 0, 0⟩, 0, wr, 1, m⟩ = wl b ⟨⟨0, 0, 0⟩, 0, wr, 1, n⟩ := fun b' h m => by unfold wl; rw [h]
  obtain ⟨_, hv⟩ := beast_ok b he
  by_cases hm : k ∈ wl b ⟨⟨0, 0, 0⟩, 0, wr, 1, n⟩
  · obtain ⟨j, hj, hjk⟩ := mem_getD hm
    have h1 := doSys_at b ⟨⟨0, 0, 0⟩, 0, wr, 1, n⟩ hb (hq _) j hj
    have h2 := doSys_at (doSys b ⟨⟨0, 0, 0⟩, 0, wr, 1, n⟩) ⟨⟨0, 0, 0⟩, 0, wr, 1, -n⟩ (by rw [doSys_len, hb]) (hq _) j (by rw [hwl _ (doSys_k _ _)]; exact hj)
    rw [hwl _ (doSys_k _ _), hjk] at h2
    rw [hjk] at h1
    have hb2 := (hv k hk).2
    unfold newVal at h1 h2
    simp only [if_true] at h1 h2
    rw [hjk] at h1 h2
    rw [h1] at h2
    rw [h2]
    unfold cutI
    by_cases hc : 1000000000 < b.v.getD k 0 + n
    · exact Or.inr hc
    · left
      split <;> split <;> (try split) <;> omega
  · left
    rw [doSys_not _ _ _ (by rw [hwl _ (doSys_k _ _)]; exact hm), doSys_not _ _ _ hm]

theorem raise_errs (b : Beast) (wr n : Int) (hw : 0 ≤ wr ∧ wr ≤ 255) (hn : -1000000 ≤ n ∧ n ≤ 1000000) : sysErr ⟨⟨0, 0, 0⟩, 0, wr, 1, n⟩ = 0 := by
  have h : isSetB wr = true := isSet_iff.2 hw
  simp [sysErr, queryErr, isSetB] at *
  omega

/-- the beast, and what is made of it -/
def RMem (w : World) (g : Nat) (b : Beast) (w1 : World) : Prop := Blk w1 g 56 (ints b.list) ∧ Below g w w1
theorem RMem.after {w w1 w2 : World} {g : Nat} {b : Beast} (h : RMem w g b w1) (hb : Below w1.heap.size w1 w2) : RMem w g b w2 :=
  ⟨h.1.after hb, h.2.trans (hb.mono (by have := h.1.lt; omega))⟩

set_option maxHeartbeats 4000000 in
theorem systemRaise_any (b : Beast) (wi n : Int) (hb : b.v.length = 8) (w : World) :
    Calls Try.prog 10 #[.agg (ints b.list), .int .i64 wi, .int .i64 n] w fun e w' => e = .returned (.bool true) ∧ Below w.heap.size w w' := by
  have HB := Lib.hid hb
  have hbl : b.list.length = 9 := by simp [Beast.list, hb]
  clear hb
  have hw0 : 0 ≤ wi % 256 ∧ wi % 256 ≤ 255 := by omega
  have hn0 : 0 ≤ n % 1000001 ∧ n % 1000001 ≤ 1000000 := by omega
  go_enter Try.func10, Try.ntmps10
  go_upto_region 1 with (fail)
  refine wp_abs (RMem w w.heap.size b) ⟨Blk.new _ _ _, (Below.refl _ _).alloc (Nat.le_refl _) _⟩ ?_
  intro w1 hM
  have HM := Lib.hid hM
  clear hM
  go_wp2_with fail
  refine (stepped_any _).mono ?_
  rintro e w2 ⟨rfl, hb2⟩
  have HM2 := Lib.hid (HM.out.after hb2)
  clear hb2 HM
  go_wp2_with fail
  refine (rest_any n 1000001 _ (by omega) (by omega)).mono ?_
  rintro e w' ⟨rfl, rfl⟩
  generalize n % 1000001 = m at *
  go_wp2_with fail
  refine (rest_any wi 256 _ (by omega) (by omega)).mono ?_
  rintro e w' ⟨rfl, rfl⟩
  generalize wi % 256 = wr' at *
  have hup : Hid (sysErr ⟨⟨0, 0, 0⟩, 0, wr', 1, m⟩ = 0) := raise_errs b wr' m hw0 (by omega)
  have hdn : Hid (sysErr ⟨⟨0, 0, 0⟩, 0, wr', 1, -m⟩ = 0) := raise_errs b wr' (-m) hw0 (by omega)
  have hback : Hid (beastErr b = 0 → ∀ k, k < 8 → (doSys (doSys b ⟨⟨0, 0, 0⟩, 0, wr', 1, m⟩) ⟨⟨0, 0, 0⟩, 0, wr', 1, -m⟩).v.getD k 0 = b.v.getD k 0 ∨ 1000000000 < b.v.getD k 0 + m) :=
    fun he k hk => raise_back b wr' m HB.out hw0 hn0 he k hk
  go_upto_region 5 with (fail)
  refine wp_abs (fun w' => RMem w w.heap.size b w' ∧ Blk w' w2.heap.size 58 (ints [0, 0, 0, 0, wr', 1, m])) ?_ ?_
  · exact ⟨HM2.out.after (below_new_put w2 58 [0, 0, 0, 0, 0, 0, 0] _), blk_new_put w2 58 [0, 0, 0, 0, 0, 0, 0] _ rfl⟩
  rintro w3 ⟨hM3, hu3⟩
  have hg7 : w.heap.size < w2.heap.size := HM2.out.1.lt
  have HM3 := Lib.hid hM3
  have HU3 := Lib.hid hu3
  clear hM3 hu3 HM2
  generalize w2.heap.size = g7 at *
  have fr : row? w3 g7 0 7 = some (ints [0, 0, 0, 0, wr', 1, m]) := HU3.out.row_all rfl
  go_upto_region 6 with (fail)
  refine wp_abs (fun w' => RMem w w.heap.size b w' ∧ Blk w' g7 58 (ints [0, 0, 0, 0, wr', 1, m]) ∧ Blk w' w3.heap.size 58 (ints [0, 0, 0, 0, wr', 1, m])) ?_ ?_
  · have hb := below_new_put w3 58 [0, 0, 0, 0, 0, 0, 0] [0, 0, 0, 0, wr', 1, m]
    exact ⟨HM3.out.after hb, HU3.out.after hb, blk_new_put w3 58 [0, 0, 0, 0, 0, 0, 0] _ rfl⟩
  rintro w4 ⟨hM4, hu4, hd4⟩
  have hg8 : g7 < w3.heap.size := HU3.out.lt
  have HM4 := Lib.hid hM4
  have HU4 := Lib.hid hu4
  have HD4 := Lib.hid hd4
  clear hM4 hu4 hd4 HM3 HU3 fr
  generalize w3.heap.size = g8 at *
  have fc : w4.cell? ⟨g8, 6, none⟩ = some (.int .i64 m) := HD4.out.cell 6
  have ff : w4.frozen? ⟨g8, 6, none⟩ = false := HD4.out.frozen 6
  go_upto_region 7 with (fail)
  refine wp_abs (fun w' => RMem w w.heap.size b w' ∧ Blk w' g7 58 (ints [0, 0, 0, 0, wr', 1, m]) ∧ Blk w' g8 58 (ints [0, 0, 0, 0, wr', 1, -m])) ?_ ?_
  · refine ⟨⟨HM4.out.1.far (by omega) _ _, HM4.out.2.setCell (by show w.heap.size ≤ g8; omega) _⟩, HU4.out.far (by omega) _ _, ?_⟩
    have := HD4.out.set 6 (.int .i64 (-m))
    rwa [ints_set] at this
  rintro w5 ⟨hM5, hu5, hd5⟩
  have HM5 := Lib.hid hM5
  have HU5 := Lib.hid hu5
  have HD5 := Lib.hid hd5
  clear hM5 hu5 hd5 HM4 HU4 HD4 fc ff
  have frb : row? w5 w.heap.size 0 9 = some (ints b.list) := HM5.out.1.row_all hbl
  have fru : row? w5 g7 0 7 = some (ints [0, 0, 0, 0, wr', 1, m]) := HU5.out.row_all rfl
  go_wp2_with fail
  refine (step_any b ⟨⟨0, 0, 0⟩, 0, wr', 1, m⟩ HB.out _).mono ?_
  rintro e w6 ⟨rfl, hb6⟩
  have HM6 := Lib.hid (HM5.out.after hb6)
  have HD6 := Lib.hid (HD5.out.after hb6)
  clear hb6 HM5 HD5 HU5 frb fru
  have hxl : Hid ((stepRes b ⟨⟨0, 0, 0⟩, 0, wr', 1, m⟩).1.v.length = 8) := step_len b _ HB.out
  have hx9 : (stepRes b ⟨⟨0, 0, 0⟩, 0, wr', 1, m⟩).1.list.length = 9 := by simp [Beast.list, hxl.out]
  have hE : Hid ((stepRes b ⟨⟨0, 0, 0⟩, 0, wr', 1, m⟩).2 = beastErr b ∧ (beastErr b = 0 → (stepRes b ⟨⟨0, 0, 0⟩, 0, wr', 1, m⟩).1 = doSys b ⟨⟨0, 0, 0⟩, 0, wr', 1, m⟩)) := by
    unfold Hid stepRes
    rw [if_pos hup.out]
    split
    · rename_i h; exact ⟨h.symm, fun _ => rfl⟩
    · rename_i h; exact ⟨rfl, fun h' => absurd h' h⟩
  go_upto_region 8 with (fail)
  generalize stepRes b ⟨⟨0, 0, 0⟩, 0, wr', 1, m⟩ = X at *
  obtain ⟨X, E1⟩ := X
  refine wp_abs (fun w' => RMem w w.heap.size b w' ∧ Blk w' g8 58 (ints [0, 0, 0, 0, wr', 1, -m]) ∧ Blk w' w6.heap.size 56 (ints X.list)) ?_ ?_
  · have hb := below_new_put w6 56 [0, 0, 0, 0, 0, 0, 0, 0, 0] X.list
    exact ⟨HM6.out.after hb, HD6.out.after hb, blk_new_put w6 56 [0, 0, 0, 0, 0, 0, 0, 0, 0] _ hx9⟩
  rintro w7 ⟨hM7, hd7, hx7⟩
  have hg9 : g8 < w6.heap.size := HD6.out.lt
  have HM7 := Lib.hid hM7
  have HD7 := Lib.hid hd7
  have HX7 := Lib.hid hx7
  clear hM7 hd7 hx7 HM6 HD6
  generalize w6.heap.size = g9 at *
  have frx : row? w7 g9 0 9 = some (ints X.list) := HX7.out.row_all hx9
  have frd : row? w7 g8 0 7 = some (ints [0, 0, 0, 0, wr', 1, -m]) := HD7.out.row_all rfl
  go_wp2_with fail
  refine (step_any X ⟨⟨0, 0, 0⟩, 0, wr', 1, -m⟩ hxl.out _).mono ?_
  rintro e w8 ⟨rfl, hb8⟩
  have HM8 := Lib.hid (HM7.out.after hb8)
  clear hb8 HM7 HD7 HX7 frx frd
  have hyl : Hid ((stepRes X ⟨⟨0, 0, 0⟩, 0, wr', 1, -m⟩).1.v.length = 8) := step_len X _ hxl.out
  have hy9 : (stepRes X ⟨⟨0, 0, 0⟩, 0, wr', 1, -m⟩).1.list.length = 9 := by simp [Beast.list, hyl.out]
  have hE2 : Hid ((stepRes X ⟨⟨0, 0, 0⟩, 0, wr', 1, -m⟩).2 = beastErr X ∧ (beastErr X = 0 → (stepRes X ⟨⟨0, 0, 0⟩, 0, wr', 1, -m⟩).1 = doSys X ⟨⟨0, 0, 0⟩, 0, wr', 1, -m⟩)) := by
    unfold Hid stepRes
    rw [if_pos hdn.out]
    split
    · rename_i h; exact ⟨h.symm, fun _ => rfl⟩
    · rename_i h; exact ⟨rfl, fun h' => absurd h' h⟩
  go_upto_region 9 with (fail)
  generalize stepRes X ⟨⟨0, 0, 0⟩, 0, wr', 1, -m⟩ = Y at *
  obtain ⟨Y, E2⟩ := Y
  refine wp_abs (fun w' => RMem w w.heap.size b w' ∧ Blk w' w8.heap.size 56 (ints Y.list)) ?_ ?_
  · have hb := below_new_put w8 56 [0, 0, 0, 0, 0, 0, 0, 0, 0] Y.list
    exact ⟨HM8.out.after hb, blk_new_put w8 56 [0, 0, 0, 0, 0, 0, 0, 0, 0] _ hy9⟩
  rintro w9 ⟨hM9, hy9'⟩
  have HM9 := Lib.hid hM9
  have HY9 := Lib.hid hy9'
  clear hM9 hy9' HM8
  generalize w8.heap.size = g10 at *
  by_cases he : beastErr b = 0
  · obtain ⟨h1, h2⟩ := hE.out
    have h2 := h2 he
    subst h2
    have hX0 : beastErr (doSys b ⟨⟨0, 0, 0⟩, 0, wr', 1, m⟩) = 0 := doSys_ok b _ HB.out he
    obtain ⟨h3, h4⟩ := hE2.out
    have h4 := h4 hX0
    have hback' := Lib.hid (hback.out he)
    have hE1 : E1 = 0 := h1.trans he
    have hE2' : E2 = 0 := h3.trans hX0
    have hvb := Lib.hid (beast_ok b he).2
    subst hE1 hE2'
    have HYv : Hid (Y = doSys (doSys b ⟨⟨0, 0, 0⟩, 0, wr', 1, m⟩) ⟨⟨0, 0, 0⟩, 0, wr', 1, -m⟩) := h4
    clear h1 h3 h4 hE hE2 hback he hX0
    go_wp2_with fail
    go_loopw [47] (fun i w' => ∃ k : Nat, k ≤ 8 ∧ i = .int .i64 k ∧ Below w9.heap.size w9 w') (fun i _ => 8 - (intOf i).toNat)
    case atStart => exact ⟨0, by omega, rfl, Below.refl _ _⟩
    case round =>
      obtain ⟨k, hk8, rfl, hbr⟩ := hrel
      have HM6 := Lib.hid (HM9.out.after hbr)
      have HX6 := Lib.hid (HY9.out.after hbr)
      have HBR := Lib.hid hbr
      clear hbr
      by_cases hlt : k < 8
      · have c3 := fun n : After wr => n.cell (beast_val HX6.out hyl.out k hlt)
        have c4 := fun n : After wr => n.cell (beast_val HM6.out.1 HB.out k hlt)
        have hki : (k : Int) < 8 := by omega
        have hbk := Lib.hid (hback'.out k hlt)
        obtain ⟨hv1, hv2⟩ := (hvb.out k hlt).2
        rw [← HYv.out] at hbk
        generalize hX : Y.v.getD k 0 = y at *
        generalize hY : b.v.getD k 0 = x at *
        have HX := Lib.hid hX
        have HY := Lib.hid hY
        clear hX hY
        have h4 : (y = x) ∨ ((y != x) = true ∧ decide (x + m ≤ 1000000000) = false) := by
          rcases hbk.out with h | h
          · exact Or.inl h
          · by_cases hyx : y = x
            · exact Or.inl hyx
            · exact Or.inr ⟨by simpa using hyx, by simp; omega⟩
        have hsum : IntKind.i64.wrap (x + m) = x + m := IntWalk.i64_in _ (by omega)
        rcases h4 with rfl | ⟨h5, h6⟩
        all_goals
          go_upto_region 14 with (fail)
          refine wp_region_after (by kernel_rfl) (by kernel_rfl) ?_
          repeat (go_big_quiet_step (fail))
          refine wpQuiet_nil ?_
          rintro _ ⟨n, rfl⟩
          go_wp2_with fail
          go_roundw
          case rel => exact ⟨k + 1, by omega, by go_num, HBR.out.trans (n.below.mono HBR.out.size)⟩
          case measure => simp [intOf]; omega
      · go_wp2_with fail
        go_ret
        exact ⟨rfl, HM6.out.2⟩
  · have h1 : E1 = beastErr b := hE.out.1
    have hne : (E1 != 0) = true := by rw [h1]; simpa using he
    have hEb : (beastErr b != 0) = true := by simpa using he
    have frb : row? w9 w.heap.size 0 9 = some (ints b.list) := HM9.out.1.row_all hbl
    clear h1 hE he hE2 hback
    go_wp2_with fail
    refine (checkBeast_any b HB.out _).mono ?_
    rintro e w10 ⟨rfl, hb10⟩
    have HM10 := Lib.hid (HM9.out.after hb10)
    generalize beastErr b = E at *
    go_wp2_with fail
    go_ret
    exact ⟨rfl, HM10.out.2⟩

end Go.Proofs.Ytmocljblfccglaa
