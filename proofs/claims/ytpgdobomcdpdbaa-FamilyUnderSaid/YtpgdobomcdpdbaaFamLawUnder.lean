/-
  The walk of the law FamilyUnder.
-/
import Derived.Test.YtpgdobomcdpdbaaFamRel
namespace Go.Proofs.Ytpgdobomcdpdbaa
open Go.RowKit

theorem not_mem_take {α : Type} : ∀ {l : List α} (_ : l.Nodup) (k : Nat) (hk : k < l.length), l[k] ∉ l.take k
  | [], _, k, hk => by simp at hk
  | a :: l, hn, 0, _ => by simp
  | a :: l, hn, k + 1, hk => by
    obtain ⟨h1, h2⟩ := List.nodup_cons.1 hn
    rw [List.take_succ_cons, List.getElem_cons_succ, List.mem_cons]
    rintro (e | e)
    · exact h1 (e ▸ List.getElem_mem _)
    · exact not_mem_take h2 k (by simpa using hk) e

set_option maxHeartbeats 4000000 in
set_option maxRecDepth 100000 in
theorem familyUnder_any (A : Option Addr) (c : Nat) (os : List OpM) (h : Hd) (w : World) (H : OpsIn w w.heap.size A os) (hlen : os.length ≤ 1099511627776) (hb8 : ∀ o ∈ os, o.b.v.length = 8) :
    Calls Try.prog 6 #[.slice A os.length c, hdV h] w fun e w' => e = .returned (.bool true) ∧ Below w.heap.size w w' := by
  have H := Lib.hid H
  have H8 := Lib.hid hb8
  clear hb8
  obtain ⟨h1, h2⟩ := h
  rw [hdV_eq]
  go_enter Try.func6, Try.ntmps6
  go_upto_region 1 with (fail)
  refine wp_abs (In (fun _ => False) w [Box w.heap.size 36 (ints [h1, h2])]) ((In.nil w _).alloc 36 (ints [h1, h2])) ?_
  generalize w.heap.size = hb
  intro w1 hI
  have HI0 := Lib.hid hI
  clear hI
  go_wp2_with fail
  refine (related_any w1).mono ?_
  rintro e w2 ⟨rfl, hb2⟩
  have HI1 := Lib.hid (HI0.out.below hb2)
  clear hb2 HI0
  go_wp2_with fail
  refine (grown_in H.out hlen H8.out HI1.out).mono ?_
  rintro e w3 ⟨p, rfl, hI⟩
  have hml : (growsR os).length ≤ 1099511627776 := Nat.le_trans (growsR_len os) hlen
  have HOK := Lib.hid (growsR_ok os)
  generalize growsR os = m at *
  have q1 : row? w3 hb 0 2 = some (ints [h1, h2]) := hI.swap.blk.row_all rfl
  have HI2 := Lib.hid hI
  clear hI HI1 H H8 hlen
  go_wp2_with fail
  refine (funder_in HI2.out hml (h1, h2)).mono ?_
  rintro e w4 ⟨uv, rfl, hI⟩
  have q2 : row? w4 hb 0 2 = some (ints [h1, h2]) := hI.third.blk.row_all rfl
  have HI3 := Lib.hid hI.swap
  clear hI HI2 q1
  go_wp2_with fail
  refine (fchildren_in HI3.out (h1, h2) hml).mono ?_
  rintro e w5 ⟨kv, rfl, hI⟩
  obtain ⟨kA, kc, rfl, _, _, _⟩ := rowH_at hI.rowAt
  obtain ⟨uA, uc, rfl, _, huc, _⟩ := rowH_at hI.third.rowAt
  have hkl := kids_len m (h1, h2)
  have hul := under_len HOK.out.nodup HOK.out.acyc (h1, h2)
  have HU := Lib.hid (underTo_all m HOK.out (h1, h2))
  have HI4 := Lib.hid hI
  clear hI HI3 q2
  go_wp2_with fail
  go_loopw [25, 7] (fun i many w' => ∃ k : Nat, k ≤ (kids m (h1, h2)).length ∧ i = .int .i64 k ∧ many = .int .i64 ((underTo m (h1, h2) k).length : Nat) ∧
    In (fun _ => False) w [RowH (.slice kA (kids m (h1, h2)).length kc) (kids m (h1, h2)), FamA p m, RowH (.slice uA (under m (h1, h2)).length uc) (under m (h1, h2)), Box hb 36 (ints [h1, h2])] w') (fun i _ _ => (kids m (h1, h2)).length - (intOf i).toNat)
  case atStart => exact ⟨0, Nat.zero_le _, rfl, rfl, HI4.out⟩
  case round =>
    clear HI4
    obtain ⟨k, hk, rfl, rfl, hI⟩ := hrel
    have HI := Lib.hid hI
    clear hI
    by_cases hlt : k < (kids m (h1, h2)).length
    · have hki : (k : Int) < (kids m (h1, h2)).length := by omega
      obtain ⟨A', c', e0, _, hkc, hrow⟩ := rowH_at HI.out.rowAt
      injection e0 with e1 e2 e3
      subst e1; subst e3
      obtain ⟨g, rfl, q1⟩ := hrow k hlt
      have HS : Hid ((underTo m (h1, h2) (k + 1)).length = (underTo m (h1, h2) k).length + (1 + (under m (kids m (h1, h2))[k]).length)) := by
        unfold Hid; rw [underTo_succ m (h1, h2) k hlt]; simp; omega
      have hle1 := underTo_le m HOK.out (h1, h2) (k + 1)
      rw [HS.out] at hle1
      have hkc' : ((kids m (h1, h2)).length : Int) ≤ kc := by omega
      clear hrow e2
      generalize (kids m (h1, h2))[k] = x at *
      obtain ⟨x1, x2⟩ := x
      go_upto_region 11 with (fail)
      refine wp_abs (In (fun _ => False) w [FamA p m, Box wr.heap.size 36 (ints [x1, x2]), RowH (.slice (some ⟨g, 0, none⟩) (kids m (h1, h2)).length kc) (kids m (h1, h2)), RowH (.slice uA (under m (h1, h2)).length uc) (under m (h1, h2)), Box hb 36 (ints [h1, h2])]) ((HI.out.struct 36 [0, 0] [x1, x2] rfl).third) ?_
      generalize wr.heap.size = xb
      intro w6 hI6
      have q2 : row? w6 xb 0 2 = some (ints [x1, x2]) := hI6.swap.blk.row_all rfl
      have HI6 := Lib.hid hI6
      clear hI6 q1 HI
      go_wp2_with fail
      refine (funder_in HI6.out hml (x1, x2)).mono ?_
      rintro e w7 ⟨v7, rfl, hI7⟩
      obtain ⟨A7, c7, rfl, _, _, _⟩ := rowH_at hI7.rowAt
      have HI7 : Hid (In (fun _ => False) w [RowH (.slice (some ⟨g, 0, none⟩) (kids m (h1, h2)).length kc) (kids m (h1, h2)), FamA p m, RowH (.slice uA (under m (h1, h2)).length uc) (under m (h1, h2)), Box hb 36 (ints [h1, h2])] w7) := (hI7.drop.swap.drop).swap
      clear hI7 HI6 q2
      go_wp2_with fail
      go_roundw
      case rel => exact ⟨k + 1, by omega, by go_num, by rw [HS.out]; go_num, HI7.out⟩
      case measure => simp [intOf]; omega
    · have : k = (kids m (h1, h2)).length := by omega
      subst this
      rw [HU.out]
      have HI5 : Hid (In (fun _ => False) w [RowH (.slice uA (under m (h1, h2)).length uc) (under m (h1, h2))] wr) := HI.out.drop.drop.swap.drop
      clear HI HU
      have HND := Lib.hid (under_nodup HOK.out.nodup HOK.out.acyc (h1, h2))
      generalize under m (h1, h2) = us at *
      go_wp2_with fail
      go_loopw [39] (fun i w' => ∃ k : Nat, k ≤ us.length ∧ i = .int .i64 k ∧ In (fun _ => False) w [RowH (.slice uA us.length uc) us] w') (fun i _ => us.length - (intOf i).toNat)
      case atStart => exact ⟨0, Nat.zero_le _, rfl, HI5.out⟩
      case round =>
        clear HI5
        obtain ⟨k, hk, rfl, hI⟩ := hrel
        have HI := Lib.hid hI
        clear hI
        by_cases hlt : k < us.length
        · have hki : (k : Int) < us.length := by omega
          obtain ⟨A', c', e0, _, hkc, hrow⟩ := rowH_at HI.out.rowAt
          injection e0 with e1 e2 e3
          subst e1; subst e3
          obtain ⟨g, rfl, q1⟩ := hrow k hlt
          have HD : Hid (decide (us[k] ∈ us.take k) = false) := by
            unfold Hid; rw [decide_eq_false_iff_not]; exact not_mem_take HND.out k hlt
          have hkc' : (k : Int) ≤ uc := by omega
          clear hrow e2
          generalize us[k] = x at *
          obtain ⟨x1, x2⟩ := x
          go_upto_region 16 with (fail)
          refine wp_abs (In (fun _ => False) w [Box wr.heap.size 36 (ints [x1, x2]), RowH (.slice (some ⟨g, 0, none⟩) us.length uc) us]) (HI.out.struct 36 [0, 0] [x1, x2] rfl) ?_
          generalize wr.heap.size = xb
          intro w6 hI6
          have q2 : row? w6 xb 0 2 = some (ints [x1, x2]) := hI6.blk.row_all rfl
          have HI6 := Lib.hid hI6.swap
          clear hI6 q1 HI
          go_still_tail 4, (by kernel_rfl)
          change wpList _ _ _ _ _ w6.drew
          have HI7 := Lib.hid HI6.out.drew
          clear HI6 q2
          generalize w6.drew = w7 at *
          go_wp2_with fail
          refine (hasH_take HI7.out rfl k uc (by omega) (x1, x2)).mono ?_
          rintro e w8 ⟨rfl, hb8⟩
          rw [HD.out]
          have HI8 := Lib.hid ((HI7.out.below hb8).swap.drop)
          clear hb8 HI7
          go_wp2_with fail
          go_roundw
          case rel => exact ⟨k + 1, by omega, by go_num, HI8.out⟩
          case measure => simp [intOf]; omega
        · have : k = us.length := by omega
          subst this
          go_wp2_with fail
          go_ret
          exact ⟨ret_bool (by simp), HI.out.below0⟩

end Go.Proofs.Ytpgdobomcdpdbaa
