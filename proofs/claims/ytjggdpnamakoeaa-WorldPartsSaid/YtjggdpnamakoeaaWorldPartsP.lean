/-
  The walk of the law WorldParts.
-/
import Derived.Test.YtjggdpnamakoeaaWorldPutsP
namespace Go.Proofs.Ytjggdpnamakoeaa
open Go.RowKit

def qNeed (k : Nat) : Query := ⟨wrap64 (2 ^ k), 0, 0⟩
def qNot (k : Nat) : Query := ⟨0, wrap64 (2 ^ k), 0⟩
theorem qNeed_err : ∀ k, k < 8 → queryErr (qNeed k) = 0 ∧ queryErr (qNot k) = 0 := by
  have h : ∀ k : Fin 8, queryErr (qNeed k.val) = 0 ∧ queryErr (qNot k.val) = 0 := by decide +kernel
  exact fun k hk => h ⟨k, hk⟩
theorem qNeed_bit : ∀ (m k : Nat), m < 256 → k < 8 → matchQ (m : Int) (qNeed k) = m.testBit k ∧ matchQ (m : Int) (qNot k) = !m.testBit k := by
  have h : ∀ (m : Fin 256) (k : Fin 8), matchQ (m.val : Int) (qNeed k.val) = m.val.testBit k.val ∧ matchQ (m.val : Int) (qNot k.val) = !m.val.testBit k.val := by decide +kernel
  exact fun m k hm hk => h ⟨m, hm⟩ ⟨k, hk⟩
theorem rowsW_all (ls : List (Int × Bool)) (f : BF) (q : Query) : rowsW ls f q = (allW ls f).filter fun r => matchQ r.b.k q := rfl
theorem part_len (rs : List RowM) (k : Nat) (hk : k < 8) (h : ∀ r ∈ rs, 0 ≤ r.b.k ∧ r.b.k ≤ 255) : (rs.filter fun r => matchQ r.b.k (qNeed k)).length + (rs.filter fun r => matchQ r.b.k (qNot k)).length = rs.length := by
  induction rs with
  | nil => rfl
  | cons r rs ih =>
    have h1 := h r (by simp)
    have h2 := qNeed_bit r.b.k.toNat k (by omega) hk
    rw [show ((r.b.k.toNat : Nat) : Int) = r.b.k by omega] at h2
    have h3 := ih fun r hr => h r (by simp [hr])
    rw [List.filter_cons, List.filter_cons, h2.1, h2.2]
    cases r.b.k.toNat.testBit k <;> simp <;> omega
set_option maxHeartbeats 4000000 in
set_option maxRecDepth 100000 in
theorem worldParts_any (A : Option Addr) (c : Nat) (os : List OpM) (kind : Int) (q : Query) (w : World) (H : OpsIn w w.heap.size A os) (hlen : os.length ≤ 1099511627776) (hb8 : ∀ o ∈ os, o.b.v.length = 8) :
    Calls Try.prog 5 #[.slice A os.length c, .int .i64 kind, .agg (ints q.list)] w fun e w' => e = .returned (.bool true) ∧ Below w.heap.size w w' := by
  have H := Lib.hid H
  have H8 := Lib.hid hb8
  clear hb8
  go_enter Try.func5, Try.ntmps5
  go_upto_region 1 with (fail)
  refine wp_abs (In (fun _ => False) w [Box w.heap.size 45 (ints q.list)]) ((In.nil w _).alloc 45 (ints q.list)) ?_
  generalize w.heap.size = qb
  intro w1 hI
  have HI0 := Lib.hid hI
  clear hI
  go_wp2_with fail
  refine (lived_any w1).mono ?_
  rintro e w2 ⟨rfl, hb2⟩
  have HI1 := Lib.hid (HI0.out.below hb2)
  clear hb2 HI0
  go_wp2_with fail
  refine (made_in H.out hlen H8.out HI1.out).mono ?_
  rintro e w3 ⟨p, rfl, hI⟩
  have HOK : Hid (WOk (madeW os).1 (madeW os).2) := madeW_ok H8.out
  generalize madeW os = st at *
  obtain ⟨ls, f⟩ := st
  have HI2 := Lib.hid hI
  clear hI HI1 H8 H hlen
  go_wp2_with fail
  refine (rest_any kind 8 w3 (by omega) (by omega)).mono ?_
  rintro e w' ⟨rfl, rfl⟩
  obtain ⟨k, hk8, hke⟩ : ∃ k : Nat, k < 8 ∧ kind % 8 = (k : Int) := ⟨(kind % 8).toNat, by omega, by omega⟩
  rw [hke]
  have hki8 : (k : Int) < 8 := by omega
  clear hke
  go_wp2_with fail
  refine (rows_in HI2.out HOK.out (qNeed k)).mono ?_
  rintro e w4 ⟨v1, rfl, hI⟩
  rw [(qNeed_err k hk8).1, if_pos rfl] at hI
  rw [(qNeed_err k hk8).1]
  have HI3 := Lib.hid hI.swap
  clear hI HI2
  go_wp2_with fail
  refine (rows_in HI3.out HOK.out (qNot k)).mono ?_
  rintro e w5 ⟨v2, rfl, hI⟩
  rw [(qNeed_err k hk8).2, if_pos rfl] at hI
  rw [(qNeed_err k hk8).2]
  have q1 : row? w5 qb 0 3 = some (ints q.list) := hI.fourth.blk.row_all rfl
  have HI4 := Lib.hid hI.swap
  clear hI HI3
  go_wp2_with fail
  refine (rows_in HI4.out HOK.out q).mono ?_
  rintro e w6 ⟨v3, rfl, hI⟩
  obtain ⟨rs3, hrs3⟩ : ∃ x, (if queryErr q = 0 then rowsW ls f q else []) = x := ⟨_, rfl⟩
  rw [hrs3] at hI
  have HQ3 : Hid (queryErr q = 0 → rs3 = rowsW ls f q) := fun h => by rw [← hrs3, if_pos h]
  have HV3 : Hid (∀ r ∈ rs3, r.b.v.length = 8) := fun r hr => by
    rw [← hrs3] at hr
    split at hr
    · rw [rowsW_all] at hr
      exact (allW_ok HOK.out (List.mem_filter.1 hr).1).1
    · cases hr
  clear hrs3
  generalize queryErr q = qe at *
  obtain ⟨A3, c3, rfl, _, _, _⟩ := hI.rowsAt
  obtain ⟨A2, c2, rfl, _, _, _⟩ := hI.third.rowsAt
  obtain ⟨A1, c1, rfl, _, _, _⟩ := hI.fourth.rowsAt
  have HI5 := Lib.hid hI.swap
  clear hI HI4 q1
  have HROK : Hid (∀ r ∈ allW ls f, r.b.v.length = 8 ∧ 0 ≤ r.b.k ∧ r.b.k ≤ 255) := fun r hr => ⟨(allW_ok HOK.out hr).1, ((beast_iff _).1 (allW_ok HOK.out hr).2.1).1⟩
  have hr60 := allW_len HOK.out
  have hpl := part_len (allW ls f) k hk8 fun r hr => (HROK.out r hr).2
  rw [← rowsW_all, ← rowsW_all] at hpl
  have hsum : ((rowsW ls f (qNeed k)).length : Int) + ((rowsW ls f (qNot k)).length : Int) = (allW ls f).length := by omega
  have hwr : wrap64 (((rowsW ls f (qNeed k)).length : Int) + ((rowsW ls f (qNot k)).length : Int)) = (allW ls f).length := by
    rw [hsum]; exact IntWalk.wrap64_in _ ⟨by omega, by omega⟩
  have HM1 : Hid (∀ r ∈ allW ls f, decide (r ∈ rowsW ls f (qNeed k)) = r.b.k.toNat.testBit k ∧ decide (r ∈ rowsW ls f (qNot k)) = !r.b.k.toNat.testBit k) := fun r hr => by
    have h1 := HROK.out r hr
    have h2 := qNeed_bit r.b.k.toNat k (by omega) hk8
    rw [show ((r.b.k.toNat : Nat) : Int) = r.b.k by omega] at h2
    exact ⟨by rw [rowsW_all, ← h2.1, Bool.eq_iff_iff, decide_eq_true_eq, List.mem_filter]; simp [hr], by rw [rowsW_all, ← h2.2, Bool.eq_iff_iff, decide_eq_true_eq, List.mem_filter]; simp [hr]⟩
  have HM3 : Hid (qe = 0 → ∀ r ∈ allW ls f, decide (r ∈ rs3) = matchQ r.b.k q) := fun h r hr => by
    rw [HQ3.out h, rowsW_all, Bool.eq_iff_iff, decide_eq_true_eq, List.mem_filter]
    simp [hr]
  have HV1 : Hid (∀ r ∈ rowsW ls f (qNeed k), r.b.v.length = 8) := fun r hr => by rw [rowsW_all] at hr; exact (HROK.out r (List.mem_filter.1 hr).1).1
  have HV2 : Hid (∀ r ∈ rowsW ls f (qNot k), r.b.v.length = 8) := fun r hr => by rw [rowsW_all] at hr; exact (HROK.out r (List.mem_filter.1 hr).1).1
  clear hpl hsum HQ3
  generalize rowsW ls f (qNeed k) = rsw at *
  generalize rowsW ls f (qNot k) = rsn at *
  go_wp2_with fail
  refine (all_in HI5.out HOK.out).mono ?_
  rintro e w7 ⟨v4, rfl, hI⟩
  obtain ⟨A4, c4, rfl, _, _, _⟩ := hI.rowsAt
  have HI6 := Lib.hid hI.drop
  clear hI HI5
  go_wp2_with fail
  refine (all_in HI6.out HOK.out).mono ?_
  rintro e w8 ⟨v5, rfl, hI⟩
  obtain ⟨A5, c5, rfl, _, _, _⟩ := hI.rowsAt
  have HI7 : Hid (In (fun _ => False) w [RowsA (.slice A5 (allW ls f).length c5) (allW ls f), RowsA (.slice A3 rs3.length c3) rs3, RowsA (.slice A2 rsn.length c2) rsn, RowsA (.slice A1 rsw.length c1) rsw, Box qb 45 (ints q.list)] w8) := hI.swap.drop
  clear hI HI6
  generalize allW ls f = rs at *
  clear hwr
  have hri : (rs.length : Int) ≤ 60 := Int.ofNat_le.2 hr60
  go_wp2_with fail
  go_loopw [66] (fun i w' => ∃ j : Nat, j ≤ rs.length ∧ i = .int .i64 j ∧ In (fun _ => False) w [RowsA (.slice A5 rs.length c5) rs, RowsA (.slice A3 rs3.length c3) rs3, RowsA (.slice A2 rsn.length c2) rsn, RowsA (.slice A1 rsw.length c1) rsw, Box qb 45 (ints q.list)] w') (fun i _ => rs.length - (intOf i).toNat)
  case atStart => exact ⟨0, Nat.zero_le _, rfl, HI7.out⟩
  case round =>
    clear HI7
    obtain ⟨j, hj, rfl, hI⟩ := hrel
    have HI := Lib.hid hI
    clear hI
    by_cases hlt : j < rs.length
    · have hji : (j : Int) < rs.length := by omega
      obtain ⟨h8, _⟩ := HROK.out _ (List.getElem_mem hlt)
      obtain ⟨g, rfl, q1⟩ := rowsAt_get HI.out hlt h8
      have hm1 := HM1.out _ (List.getElem_mem hlt)
      have hm3 := fun h => HM3.out h _ (List.getElem_mem hlt)
      generalize rs[j] = r at *
      have hl11 : r.list.length = 11 := by simp [RowM.list, Beast.list, h8]
      go_upto_region 15 with (fail)
      refine wp_abs (In (fun _ => False) w [Box wr.heap.size 37 (ints r.list), RowsA (.slice (some ⟨g, 0, none⟩) rs.length c5) rs, RowsA (.slice A3 rs3.length c3) rs3, RowsA (.slice A2 rsn.length c2) rsn, RowsA (.slice A1 rsw.length c1) rsw, Box qb 45 (ints q.list)]) (HI.out.struct 37 [0, 0, 0, 0, 0, 0, 0, 0, 0, 0, 0] _ hl11) ?_
      generalize wr.heap.size = rb
      intro w9 hI9
      have d1 : ∀ n : After w9, row? n.w rb 0 11 = some (ints r.list) := fun n => (hI9.blk.after n.below).row_all hl11
      have d2 : ∀ n : After w9, n.w.cell? ⟨rb, 2, none⟩ = some (.int .i64 r.b.k) := fun n => (hI9.blk.after n.below).cell 2
      have d3 : ∀ n : After w9, row? n.w qb 0 3 = some (ints q.list) := fun n => ((hI9.nth 5 (by simp)).blk.after n.below).row_all rfl
      have HH1 : Hid (∀ n : After w9, Calls Try.prog 19 #[.slice A1 rsw.length c1, .agg (ints r.list)] n.w fun e w' => e = .returned (.bool (r.b.k.toNat.testBit k)) ∧ Below n.w.heap.size n.w w') := fun n => by
        have := hasR_in (In.nth (hI9.below n.below) 4 (by simp)) r h8 HV1.out
        rw [hm1.1] at this; exact this
      have HH2 : Hid (∀ n : After w9, Calls Try.prog 19 #[.slice A2 rsn.length c2, .agg (ints r.list)] n.w fun e w' => e = .returned (.bool (!r.b.k.toNat.testBit k)) ∧ Below n.w.heap.size n.w w') := fun n => by
        have := hasR_in (In.nth (hI9.below n.below) 3 (by simp)) r h8 HV2.out
        rw [hm1.2] at this; exact this
      have HH3 : Hid (qe = 0 → ∀ n : After w9, Calls Try.prog 19 #[.slice A3 rs3.length c3, .agg (ints r.list)] n.w fun e w' => e = .returned (.bool (matchQ r.b.k q)) ∧ Below n.w.heap.size n.w w') := fun h n => by
        have := hasR_in (In.nth (hI9.below n.below) 2 (by simp)) r h8 HV3.out
        rw [hm3 h] at this; exact this
      have HH4 : Hid (∀ n : After w9, Calls Try.prog 20 #[.int .i64 r.b.k, .agg (ints q.list)] n.w fun e w' => e = .returned (.bool (matchQ r.b.k q)) ∧ Below n.w.heap.size n.w w') := fun n => matchQ_any r.b.k q n.w
      have HI9 := Lib.hid hI9.drop
      clear hI9 HI q1 hm1 hm3
      generalize r.list = xs at *
      generalize r.b.k.toNat.testBit k = t at *
      generalize matchQ r.b.k q = m at *
      by_cases hqe : qe = 0
      case' pos =>
        have HH3 := Lib.hid (HH3.out hqe)
        have hqd : (qe == 0) = true := by simp [hqe]
        clear hqe
      case' neg =>
        have hqd : (qe == 0) = false := by simp [hqe]
        clear hqe HH3
        have HH3 : Hid True := trivial
      all_goals
        cases t <;> cases m
        all_goals
          simp only [Bool.not_true, Bool.not_false] at HH2
          refine wp_region_after (by kernel_rfl) (by kernel_rfl) ?_
          repeat (go_big_quiet_step (first
            | (go_at_call 19; first | with_reducible exact quiet_after (HH1.out _) | with_reducible exact quiet_after (HH2.out _) | with_reducible exact quiet_after (HH3.out _))
            | (go_at_call 20; exact quiet_after (HH4.out _))))
          refine wpQuiet_nil ?_
          rintro _ ⟨n, rfl⟩
          have HI10 := Lib.hid (HI9.out.below n.below)
          generalize n.w = w10 at *
          clear d1 d2 d3 HH1 HH2 HH3 HH4 HI9
          go_wp2_with fail
          go_roundw
          · exact ⟨j + 1, by omega, by go_num, HI10.out⟩
          · simp [intOf]; omega
    · have hjm : j = rs.length := by omega
      subst hjm
      have HB := Lib.hid HI.out.below0
      clear HI
      go_wp2_with fail
      go_ret
      exact ⟨rfl, HB.out⟩

end Go.Proofs.Ytjggdpnamakoeaa
