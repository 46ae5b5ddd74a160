/-
  The closed fact 'stepped', and the walk of the law SystemKeeps.
-/
import Derived.Test.YtmocljblfccglaaStep
import Derived.Test.YtmocljblfccglaaQuiet
namespace Go.Proofs.Ytmocljblfccglaa
open Go.RowKit

theorem vals3 (a b c : Int) : (#[.int .i64 a, .int .i64 b, .int .i64 c, .int .i64 0, .int .i64 0, .int .i64 0, .int .i64 0, .int .i64 0] : Array Value) = ints [a, b, c, 0, 0, 0, 0, 0] := rfl

theorem stepped_any (w : World) : Calls Try.prog 31 #[] w fun e w' => e = .returned (.bool true) ∧ Below w.heap.size w w' := by
  have he : ∀ W, (binOp .eql 54 (.agg (ints [2, 3, 1, 0, 0, 0, 0, 0])) (.agg #[.int .i64 2, .int .i64 3, .int .i64 1, .int .i64 0, .int .i64 0, .int .i64 0, .int .i64 0, .int .i64 0])).run Try.prog W = .ok (.bool true) W :=
    fun W => eql_vals [2, 3, 1, 0, 0, 0, 0, 0] [2, 3, 1, 0, 0, 0, 0, 0] rfl rfl W
  go_enter Try.func31, Try.ntmps31
  go_wp2_with fail
  refine (step_any ⟨7, [1, 2, 3, 0, 0, 0, 0, 0]⟩ ⟨⟨0, 0, 0⟩, 0, 7, 3, 0⟩ rfl _).mono ?_
  rintro e w1 ⟨rfl, hb1⟩
  rw [stepRes_stepped]
  have HB1 := Lib.hid hb1
  clear hb1
  go_upto_region 2 with (fail)
  refine wp_abs (fun w' => Blk w' w1.heap.size 56 (ints [7, 2, 3, 1, 0, 0, 0, 0, 0]) ∧ Below w1.heap.size w1 w') ?_ ?_
  · exact ⟨blk_new_put w1 56 [0, 0, 0, 0, 0, 0, 0, 0, 0] [7, 2, 3, 1, 0, 0, 0, 0, 0] rfl, below_new_put w1 56 [0, 0, 0, 0, 0, 0, 0, 0, 0] [7, 2, 3, 1, 0, 0, 0, 0, 0]⟩
  rintro w2 ⟨hx, hb2⟩
  have hr : row? w2 w1.heap.size 1 8 = some (ints [2, 3, 1, 0, 0, 0, 0, 0]) := hx.row_ints 1 8 (by decide)
  have HB2 := Lib.hid hb2
  clear hb2 hx
  go_wp2_with fail
  go_ret
  exact ⟨rfl, HB1.out.trans (HB2.out.mono HB1.out.size)⟩

/-- a beast and a system in their boxes -/
def BoxMem (w : World) (g : Nat) (b : Beast) (s : Sys) (w1 : World) : Prop := Blk w1 g 56 (ints b.list) ∧ Blk w1 (g + 1) 58 (ints s.list) ∧ Below g w w1
theorem BoxMem.after {w w1 w2 : World} {g : Nat} {b : Beast} {s : Sys} (h : BoxMem w g b s w1) (hb : Below w1.heap.size w1 w2) : BoxMem w g b s w2 :=
  ⟨h.1.after hb, h.2.1.after hb, h.2.2.trans (hb.mono (by have := h.1.lt; omega))⟩

theorem list_inj {a b : Beast} (h : a.list = b.list) : a = b := by cases a; cases b; simp [Beast.list] at h; simp [h]
theorem step_len (b : Beast) (s : Sys) (hb : b.v.length = 8) : (stepRes b s).1.v.length = 8 := by
  unfold stepRes; split
  · split
    · show (doSys b s).v.length = 8; rw [doSys_len, hb]
    · rfl
  · rfl
theorem step_err (b : Beast) (s : Sys) (h : (stepRes b s).2 ≠ 0) : (stepRes b s).1 = zeroBeast := by
  unfold stepRes at h ⊢; split
  · split
    · rename_i h1 h2; rw [if_pos h1, if_pos h2] at h; exact absurd rfl h
    · rfl
  · rfl
theorem step_ok (b : Beast) (s : Sys) (h : (stepRes b s).2 = 0) : sysErr s = 0 ∧ beastErr b = 0 ∧ (stepRes b s).1 = doSys b s := by
  unfold stepRes at h ⊢
  split at h
  · rename_i h1
    split at h
    · rename_i h2
      rw [if_pos h1, if_pos h2]
      exact ⟨h1, h2, rfl⟩
    · rename_i h2; exact absurd h h2
  · rename_i h1; exact absurd h h1

theorem hasKind_is {m : Int} {k : Nat} {v : Bool} (h : (m8 m).testBit k = v) (hk : k < 8) (w : World) :
    Calls Try.prog 33 #[.int .i64 m, .int .i64 k] w fun e w' => e = .returned (.bool v) ∧ w = w' := h ▸ hasKind_any m k w hk
theorem m8_toNat {m : Int} (h : 0 ≤ m ∧ m ≤ 255) : m8 m = m.toNat := by unfold m8; omega
theorem beast_val {w : World} {g : Nat} {b : Beast} (h : Blk w g 56 (ints b.list)) (hb : b.v.length = 8) (k : Nat) (hk : k < 8) : w.cell? ⟨g, 1 + k, none⟩ = some (.int .i64 (b.v.getD k 0)) := by
  rw [h.cell, ints_get, Nat.add_comm]
  simp only [Beast.list, List.getElem?_cons_succ]
  rw [List.getElem?_eq_getElem (by omega)]
  simp [List.getD, List.getElem?_eq_getElem (show k < b.v.length by omega)]

set_option maxHeartbeats 4000000 in
theorem systemKeeps_any (b : Beast) (s : Sys) (hb : b.v.length = 8) (w : World) :
    Calls Try.prog 9 #[.agg (ints b.list), .agg (ints s.list)] w fun e w' => e = .returned (.bool true) ∧ Below w.heap.size w w' := by
  have HB := Lib.hid hb
  have hbl : b.list.length = 9 := by simp [Beast.list, hb]
  clear hb
  go_enter Try.func9, Try.ntmps9
  go_upto_region 1 with (fail)
  refine wp_abs (BoxMem w w.heap.size b s) ?_ ?_
  · obtain ⟨h1, h2⟩ := blk2 w 56 58 (ints b.list) (ints s.list)
    exact ⟨h1, h2, ((Below.refl _ _).alloc (Nat.le_refl _) _).alloc (by simp) _⟩
  intro w1 hM
  have HM := Lib.hid hM
  clear hM
  go_wp2_with fail
  refine (stepped_any _).mono ?_
  rintro e w2 ⟨rfl, hb2⟩
  have HM2 := Lib.hid (HM.out.after hb2)
  clear hb2 HM
  have frs : row? w2 (w.heap.size + 1) 0 7 = some (ints s.list) := HM2.out.2.1.row_all rfl
  have frb : row? w2 w.heap.size 0 9 = some (ints b.list) := HM2.out.1.row_all hbl
  go_wp2_with fail
  refine (step_any b s HB.out _).mono ?_
  rintro e w3 ⟨rfl, hb3⟩
  have HM3 := Lib.hid (HM2.out.after hb3)
  clear hb3 HM2 frs frb
  have hxl : Hid ((stepRes b s).1.v.length = 8) := step_len b s HB.out
  have hx9 : (stepRes b s).1.list.length = 9 := by simp [Beast.list, hxl.out]
  go_upto_region 4 with (fail)
  refine wp_abs (fun w' => BoxMem w w.heap.size b s w' ∧ Blk w' w3.heap.size 56 (ints (stepRes b s).1.list)) ?_ ?_
  · exact ⟨HM3.out.after (below_new_put w3 56 [0, 0, 0, 0, 0, 0, 0, 0, 0] _), blk_new_put w3 56 [0, 0, 0, 0, 0, 0, 0, 0, 0] _ hx9⟩
  rintro w4 ⟨hM4, hx4⟩
  have HM4 := Lib.hid hM4
  have HX4 := Lib.hid hx4
  clear hM4 hx4 HM3
  by_cases hE : (stepRes b s).2 = 0
  · obtain ⟨hs, he, hx⟩ := step_ok b s hE
    rw [hx] at HX4 hxl hx9
    rw [hE]
    clear hE hx
    have fq : row? w4 (w.heap.size + 1) 0 3 = some (ints s.q.list) := HM4.out.2.1.row_ints 0 3 (by simp [Sys.list])
    have f0 : w4.cell? ⟨w.heap.size, 0, none⟩ = some (.int .i64 b.k) := HM4.out.1.cell 0
    have hok := Lib.hid (doSys_ok b s HB.out he)
    have hks := Lib.hid (beast_ok b he).1
    have hws := Lib.hid (isSet_iff.1 (sysErr_ok hs).2.2.2.2.1)
    clear hs he
    go_wp2_with fail
    refine (matchQ_any _ _ _).mono ?_
    rintro e w5 ⟨rfl, hb5⟩
    have HM5 := Lib.hid (HM4.out.after hb5)
    have HX5 := Lib.hid (HX4.out.after hb5)
    clear hb5 HM4 HX4 fq f0
    by_cases hq : matchQ b.k s.q = true
    · rw [hq]
      clear hq
      have f0 : w5.cell? ⟨w.heap.size, 0, none⟩ = some (.int .i64 b.k) := HM5.out.1.cell 0
      have f4 : w5.cell? ⟨w.heap.size + 1, 4, none⟩ = some (.int .i64 s.write) := HM5.out.2.1.cell 4
      have x0 : w5.cell? ⟨w3.heap.size, 0, none⟩ = some (.int .i64 b.k) := by rw [HX5.out.cell]; show some (Value.int .i64 (doSys b s).k) = _; rw [doSys_k]
      have frx : row? w5 w3.heap.size 0 9 = some (ints (doSys b s).list) := HX5.out.row_all hx9
      go_wp2_with fail
      go_loopw [30] (fun i wr => ∃ k : Nat, k ≤ 8 ∧ i = .int .i64 k ∧ Below w5.heap.size w5 wr) (fun i _ => 8 - (intOf i).toNat)
      case atStart => exact ⟨0, by omega, rfl, Below.refl _ _⟩
      case round =>
        obtain ⟨k, hk8, rfl, hbr⟩ := hrel
        have HM6 := Lib.hid (HM5.out.after hbr)
        have HX6 := Lib.hid (HX5.out.after hbr)
        have hbr := Lib.hid hbr
        rename_i hbx
        clear hbx f0 f4 x0 frx
        by_cases hlt : k < 8
        · have hxe : Hid (¬ ((m8 s.write).testBit k = true ∧ (m8 b.k).testBit k = true) → (doSys b s).v.getD k 0 = b.v.getD k 0) := by
            intro h
            refine doSys_not b s k fun hm => h ?_
            rw [m8_toNat hws.out, m8_toNat hks.out]
            exact ⟨((mem_wl b s k).1 hm).2.2, ((mem_wl b s k).1 hm).2.1⟩
          have c1 := fun n : After wr => n.cell (show wr.cell? ⟨w.heap.size + 1, 4, none⟩ = some (.int .i64 s.write) from HM6.out.2.1.cell 4)
          have c2 := fun n : After wr => n.cell (show wr.cell? ⟨w.heap.size, 0, none⟩ = some (.int .i64 b.k) from HM6.out.1.cell 0)
          have c3 := fun n : After wr => n.cell (beast_val HX6.out hxl.out k hlt)
          have c4 := fun n : After wr => n.cell (beast_val HM6.out.1 HB.out k hlt)
          have hki : (k : Int) < 8 := by omega
          generalize hX : (doSys b s).v.getD k 0 = x at *
          generalize hY : b.v.getD k 0 = y at *
          have HX := Lib.hid hX
          have HY := Lib.hid hY
          clear hX hY
          have h4 : (∃ K, (m8 s.write).testBit k = true ∧ (m8 b.k).testBit k = K ∧ K = true) ∨ (∃ K, (m8 s.write).testBit k = true ∧ (m8 b.k).testBit k = K ∧ K = false ∧ x = y) ∨ ∃ K, (m8 s.write).testBit k = false ∧ (m8 b.k).testBit k = K ∧ x = y := by
            have hx' := hxe.out
            cases hW : (m8 s.write).testBit k <;> cases hK : (m8 b.k).testBit k <;> rw [hW, hK] at hx' <;> simp at hx' ⊢ <;> exact hx'
          rcases h4 with ⟨K, hW, hK, rfl⟩ | ⟨K, hW, hK, rfl, rfl⟩ | ⟨K, hW, hK, rfl⟩
          all_goals
            have HW := Lib.hid hW
            have HK := Lib.hid hK
            clear hW hK
            go_upto_region 11 with (fail)
            refine wp_region_after (by kernel_rfl) (by kernel_rfl) ?_
            repeat (go_big_quiet_step (first
              | (go_at_call 33; with_reducible exact quiet_same (hasKind_is HW.out hlt _))
              | (go_at_call 33; with_reducible exact quiet_same (hasKind_is HK.out hlt _))))
            refine wpQuiet_nil ?_
            rintro _ ⟨n, rfl⟩
            go_wp2_with fail
            go_roundw
            case rel => exact ⟨k + 1, by omega, by go_num, hbr.out.trans (n.below.mono hbr.out.size)⟩
            case measure => simp [intOf]; omega
        · have f0 : wr.cell? ⟨w.heap.size, 0, none⟩ = some (.int .i64 b.k) := HM6.out.1.cell 0
          have x0 : wr.cell? ⟨w3.heap.size, 0, none⟩ = some (.int .i64 b.k) := by rw [HX6.out.cell]; show some (Value.int .i64 (doSys b s).k) = _; rw [doSys_k]
          have frx : row? wr w3.heap.size 0 9 = some (ints (doSys b s).list) := HX6.out.row_all hx9
          go_wp2_with fail
          refine (checkBeast_any (doSys b s) hxl.out _).mono ?_
          rintro e w7 ⟨rfl, hb7⟩
          have HM7 := Lib.hid (HM6.out.after hb7)
          rw [hok.out]
          go_wp2_with fail
          go_ret
          exact ⟨rfl, HM7.out.2.2⟩
    · have hq' : matchQ b.k s.q = false := by simpa using hq
      rw [hq']
      have hdo : doSys b s = b := by unfold doSys; rw [if_neg hq]
      rw [hdo] at HX5
      have frx : row? w5 w3.heap.size 0 9 = some (ints b.list) := HX5.out.row_all hbl
      have frb : row? w5 w.heap.size 0 9 = some (ints b.list) := HM5.out.1.row_all hbl
      have heq : ∀ W, (binOp .eql 56 (.agg (ints b.list)) (.agg (ints b.list))).run Try.prog W = .ok (.bool true) W := fun W => by
        rw [eql_beast b.list b.list hbl hbl W]; simp
      clear hq hq' hdo
      go_wp2_with fail
      go_ret
      exact ⟨rfl, HM5.out.2.2⟩
  · have hz := step_err b s hE
    rw [hz] at HX4
    have hE' : ((stepRes b s).2 != 0) = true := by simpa using hE
    have frx : row? w4 w3.heap.size 0 9 = some (ints zeroBeast.list) := HX4.out.row_all rfl
    have heq : ∀ W, (binOp .eql 56 (.agg (ints zeroBeast.list)) (.agg #[.int .i64 0, .int .i64 0, .int .i64 0, .int .i64 0, .int .i64 0, .int .i64 0, .int .i64 0, .int .i64 0, .int .i64 0])).run Try.prog W = .ok (.bool true) W := fun W => (eql_beast zeroBeast.list [0, 0, 0, 0, 0, 0, 0, 0, 0] rfl rfl W).trans (by rfl)
    clear hE hz hx9
    generalize (stepRes b s).2 = E at *
    go_wp2_with fail
    go_ret
    exact ⟨rfl, HM4.out.2.2⟩

end Go.Proofs.Ytmocljblfccglaa
