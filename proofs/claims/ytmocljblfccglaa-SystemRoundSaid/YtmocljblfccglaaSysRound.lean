/-
  The walk of the law SystemRound.
-/
import Derived.Test.YtmocljblfccglaaSysApart
import Derived.Test.YtmocljblfccglaaSysRaise
import Derived.Test.YtmocljblfccglaaRoundMath
namespace Go.Proofs.Ytmocljblfccglaa
open Go.RowKit

/-- the beast, the system, and what it has become -/
def RndMem (w : World) (g g5 g6 : Nat) (b : Beast) (s : Sys) (x : Beast) (w1 : World) : Prop :=
  Blk w1 g 56 (ints b.list) ∧ Blk w1 g5 58 (ints s.list) ∧ Blk w1 g6 56 (ints x.list) ∧ Below g w w1
theorem RndMem.after {w w1 w2 : World} {g g5 g6 : Nat} {b x : Beast} {s : Sys} (h : RndMem w g g5 g6 b s x w1) (hb : Below w1.heap.size w1 w2) : RndMem w g g5 g6 b s x w2 :=
  ⟨h.1.after hb, h.2.1.after hb, h.2.2.1.after hb, h.2.2.2.trans (hb.mono (by have := h.1.lt; omega))⟩
theorem RndMem.put {w w1 : World} {g g5 g6 : Nat} {b x y : Beast} {s : Sys} (h : RndMem w g g5 g6 b s x w1) (h1 : g < g5) (h2 : g5 < g6) (hl : y.list.length = x.list.length) : RndMem w g g5 g6 b s y (putRow w1 g6 0 y.list) :=
  ⟨h.1.put_far 0 _ (by omega), h.2.1.put_far 0 _ (by omega), h.2.2.1.put_all _ hl, below_put h.2.2.2 (by omega) 0 _⟩

set_option maxHeartbeats 4000000 in
theorem systemRound_any (b : Beast) (wi : Int) (hb : b.v.length = 8) (w : World) :
    Calls Try.prog 12 #[.agg (ints b.list), .int .i64 wi] w fun e w' => e = .returned (.bool true) ∧ Below w.heap.size w w' := by
  have HB := Lib.hid hb
  have hbl : b.list.length = 9 := by simp [Beast.list, hb]
  clear hb
  have hw0 : 0 ≤ wi % 256 ∧ wi % 256 ≤ 255 := by omega
  go_enter Try.func12, Try.ntmps12
  go_upto_region 1 with (fail)
  refine wp_abs (RMem w w.heap.size b) ⟨Blk.new _ _ _, (Below.refl _ _).alloc (Nat.le_refl _) _⟩ ?_
  intro w1 hM
  have HM := Lib.hid hM
  clear hM
  go_wp2_with fail
  refine (stepped_any _).mono ?_
  rintro e w2 ⟨rfl, hb2⟩
  have HM2 := Lib.hid (HM.out.after hb2)
  clear hb2 HM
  go_wp2_with fail
  refine (rest_any wi 256 _ (by omega) (by omega)).mono ?_
  rintro e w' ⟨rfl, rfl⟩
  generalize wi % 256 = m at *
  have HS : Hid (sysErr (swapS m) = 0) := swap_err m hw0
  go_upto_region 4 with (fail)
  refine wp_abs (fun w' => RMem w w.heap.size b w' ∧ Blk w' w2.heap.size 58 (ints (swapS m).list)) ?_ ?_
  · exact ⟨HM2.out.after (below_new_put w2 58 [0, 0, 0, 0, 0, 0, 0] _), blk_new_put w2 58 [0, 0, 0, 0, 0, 0, 0] _ rfl⟩
  rintro w3 ⟨hM3, hS3⟩
  have hg5 : w.heap.size < w2.heap.size := HM2.out.1.lt
  have HM3 := Lib.hid hM3
  have HS3 := Lib.hid hS3
  clear hM3 hS3 HM2
  generalize w2.heap.size = g5 at *
  have frb : row? w3 w.heap.size 0 9 = some (ints b.list) := HM3.out.1.row_all hbl
  go_wp2_with fail
  refine (checkBeast_any b HB.out _).mono ?_
  rintro e w4 ⟨rfl, hb4⟩
  have HM4 := Lib.hid (HM3.out.after hb4)
  have HS4 := Lib.hid (HS3.out.after hb4)
  clear hb4 HM3 HS3 frb
  by_cases he : beastErr b = 0
  rotate_left
  · have he' : (beastErr b != 0) = true := by simpa using he
    clear he
    generalize beastErr b = E at *
    go_wp2_with fail
    go_ret
    exact ⟨rfl, HM4.out.2⟩
  have HE := Lib.hid he
  rw [he]
  clear he
  have frb : row? w4 w.heap.size 0 9 = some (ints b.list) := HM4.out.1.row_all hbl
  go_upto_region 7 with (fail)
  refine wp_abs (RndMem w w.heap.size g5 w4.heap.size b (swapS m) b) ?_ ?_
  · have hb := below_new_put w4 56 [0, 0, 0, 0, 0, 0, 0, 0, 0] b.list
    have h := HM4.out.after hb
    exact ⟨h.1, HS4.out.after hb, blk_new_put w4 56 [0, 0, 0, 0, 0, 0, 0, 0, 0] _ hbl, h.2⟩
  intro w5 hM5
  have hg6 : g5 < w4.heap.size := HS4.out.lt
  have HM5 := Lib.hid hM5
  clear hM5 HM4 HS4 frb
  generalize w4.heap.size = g6 at *
  have c1 : w5.cell? ⟨w.heap.size, 0, none⟩ = some (.int .i64 b.k) := HM5.out.1.cell 0
  have c2 : w5.cell? ⟨g5, 4, none⟩ = some (.int .i64 m) := HM5.out.2.1.cell 4
  have hcnt : Hid ((kinds (m8 (bits .and .i64 b.k m))).length = (wl b (swapS m)).length) := by
    obtain ⟨h1, h2⟩ := m8_and b.k m (beast_ok b HE.out).1 hw0
    unfold Hid wl m8
    rw [h1]
    congr 2
    show ((_ : Int) % 256).toNat = b.k.toNat &&& m.toNat
    omega
  go_wp2_with fail
  refine (count_any _ _).mono ?_
  rintro e w' ⟨rfl, rfl⟩
  rw [hcnt.out]
  have hround : Hid (rotN b m (wl b (swapS m)).length = b) := rotN_round b m HB.out
  have hm8 : (wl b (swapS m)).length ≤ 8 := kinds_len _
  generalize (wl b (swapS m)).length = M at *
  clear hcnt c1 c2
  go_wp2_with fail
  go_loopw [29] (fun i w' => ∃ j : Nat, j ≤ M ∧ i = .int .i64 j ∧ RndMem w w.heap.size g5 g6 b (swapS m) (rotN b m j) w') (fun i _ => M - (intOf i).toNat)
  case atStart => exact ⟨0, by omega, rfl, HM5.out⟩
  case round =>
    obtain ⟨j, hj, rfl, hMr⟩ := hrel
    have HMr := Lib.hid hMr
    clear hMr
    have hjM : (j : Int) ≤ M := by omega
    have HXB : Hid ((rotN b m j).v.length = 8) := (rotN_len b m j).trans HB.out
    have HXE : Hid (beastErr (rotN b m j) = 0) := rotN_ok b m HB.out HE.out j
    have hx9 : (rotN b m j).list.length = 9 := by simp [Beast.list, HXB.out]
    by_cases hlt : j < M
    · have hji : (j : Int) < M := by omega
      have HYX : Hid (rotN b m (j + 1) = doSys (rotN b m j) (swapS m)) := rfl
      have HYS : Hid (psum (doSys (rotN b m j) (swapS m)).v 8 = psum (rotN b m j).v 8) := swap_sum _ _ HXB.out
      have HYB : Hid ((doSys (rotN b m j) (swapS m)).v.length = 8) := (doSys_len _ _).trans HXB.out
      have HYE : Hid (beastErr (doSys (rotN b m j) (swapS m)) = 0) := doSys_ok _ _ HXB.out HXE.out
      have hy9 : (doSys (rotN b m j) (swapS m)).list.length = 9 := by simp [Beast.list, HYB.out]
      generalize rotN b m j = X at *
      have frx : row? wr g6 0 9 = some (ints X.list) := HMr.out.2.2.1.row_all hx9
      have frs : row? wr g5 0 7 = some (ints (swapS m).list) := HMr.out.2.1.row_all rfl
      go_wp2_with fail
      refine (step_done X (swapS m) HXB.out HS.out HXE.out _).mono ?_
      rintro e w6 ⟨rfl, hb6⟩
      have HM6 := Lib.hid (HMr.out.after hb6)
      clear hb6 HMr frx frs
      generalize doSys X (swapS m) = Y at *
      go_upto_region 11 with (fail)
      refine wp_abs (fun w' => RndMem w w.heap.size g5 g6 b (swapS m) X w' ∧ Blk w' w6.heap.size 56 (ints Y.list)) ?_ ?_
      · exact ⟨HM6.out.after (below_new_put w6 56 [0, 0, 0, 0, 0, 0, 0, 0, 0] _), blk_new_put w6 56 [0, 0, 0, 0, 0, 0, 0, 0, 0] _ hy9⟩
      rintro w7 ⟨hM7, hY7⟩
      have hg8 : g6 < w6.heap.size := HM6.out.2.2.1.lt
      have HM7 := Lib.hid hM7
      have HY7 := Lib.hid hY7
      clear hM7 hY7 HM6
      generalize w6.heap.size = g8 at *
      go_wp2_with fail
      go_loopw [39, 10, 11] (fun i p q w' => ∃ k : Nat, k ≤ 8 ∧ i = .int .i64 k ∧ p = .int .i64 (psum Y.v k) ∧ q = .int .i64 (psum X.v k) ∧ Below w7.heap.size w7 w') (fun i _ _ _ => 8 - (intOf i).toNat)
      case atStart => exact ⟨0, by omega, rfl, rfl, rfl, Below.refl _ _⟩
      case round =>
        obtain ⟨k, hk8, rfl, rfl, rfl, hbr⟩ := hrel
        have HM8 := Lib.hid (HM7.out.after hbr)
        have HY8 := Lib.hid (HY7.out.after hbr)
        have HBR := Lib.hid hbr
        clear hbr
        by_cases hk : k < 8
        · have c3 := fun n : After wr => n.cell (beast_val HY8.out HYB.out k hk)
          have c4 := fun n : After wr => n.cell (beast_val HM8.out.2.2.1 HXB.out k hk)
          have hki : (k : Int) < 8 := by omega
          have e1 : Hid (psum Y.v (k + 1) = psum Y.v k + Y.v.getD k 0) := rfl
          have e2 : Hid (psum X.v (k + 1) = psum X.v k + X.v.getD k 0) := rfl
          have b1 := psum_bound Y HYE.out (k + 1) (by omega)
          have b2 := psum_bound X HXE.out (k + 1) (by omega)
          have s1 : IntKind.i64.wrap (psum Y.v k + Y.v.getD k 0) = psum Y.v (k + 1) := by rw [e1.out] at b1 ⊢; exact IntWalk.i64_in _ (by omega)
          have s2 : IntKind.i64.wrap (psum X.v k + X.v.getD k 0) = psum X.v (k + 1) := by rw [e2.out] at b2 ⊢; exact IntWalk.i64_in _ (by omega)
          clear b1 b2
          generalize Y.v.getD k 0 = y at *
          generalize X.v.getD k 0 = x at *
          generalize hP : psum Y.v (k + 1) = p' at *
          generalize hQ : psum X.v (k + 1) = q' at *
          have HP := Lib.hid hP
          have HQ := Lib.hid hQ
          clear hP hQ e1 e2
          go_upto_region 17 with (fail)
          refine wp_region_after (by kernel_rfl) (by kernel_rfl) ?_
          repeat (go_big_quiet_step (fail))
          refine wpQuiet_nil ?_
          rintro _ ⟨n, rfl⟩
          go_wp2_with fail
          go_roundw
          case rel => exact ⟨k + 1, by omega, by go_num, by rw [HP.out], by rw [HQ.out], HBR.out.trans (n.below.mono HBR.out.size)⟩
          case measure => simp [intOf]; omega
        · have : k = 8 := by omega
          subst this
          rw [HYS.out]
          have fry : row? wr g8 0 9 = some (ints Y.list) := HY8.out.row_all hy9
          have ffx : fits wr g6 0 9 = true := HM8.out.2.2.1.fits 0 9 (by simp [ints_size, hx9])
          go_upto_region 22 with (fail)
          refine wp_abs (RndMem w w.heap.size g5 g6 b (swapS m) Y) (HM8.out.put (by omega) (by omega) (hy9.trans hx9.symm)) ?_
          intro w9 hM9
          have HM9 := Lib.hid hM9
          clear hM9
          go_wp2_with fail
          go_roundw
          case rel => exact ⟨j + 1, by omega, by go_num, HYX.out.symm ▸ HM9.out⟩
          case measure => simp [intOf]; omega
    · have : j = M := by omega
      subst this
      rw [hround.out] at HMr
      have frb : row? wr w.heap.size 0 9 = some (ints b.list) := HMr.out.1.row_all hbl
      have frx : row? wr g6 0 9 = some (ints b.list) := HMr.out.2.2.1.row_all hbl
      have heq : ∀ W, (binOp .eql 56 (.agg (ints b.list)) (.agg (ints b.list))).run Try.prog W = .ok (.bool true) W := fun W => by
        rw [eql_beast b.list b.list hbl hbl W]; simp
      go_wp2_with fail
      go_ret
      exact ⟨rfl, HMr.out.2.2.2⟩

end Go.Proofs.Ytmocljblfccglaa
