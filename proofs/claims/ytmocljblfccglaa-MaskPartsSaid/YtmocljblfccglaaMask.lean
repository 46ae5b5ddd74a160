/-
  The walks of the three laws on sets of kinds.
-/
import Derived.Test.YtmocljblfccglaaPure
import Derived.BigQuiet
namespace Go.Proofs.Ytmocljblfccglaa
open Go.RowKit

theorem m8_self (n : Nat) (h : n < 256) : m8 (n : Int) = n := by unfold m8; omega

theorem masked_any (w : World) : Calls Try.prog 14 #[] w fun e w' => e = .returned (.bool true) ∧ Below w.heap.size w w' := by
  go_enter Try.func14, Try.ntmps14
  go_wp2_with fail
  refine (of_any _ 2 2 [0, 7] _ (w.heap.size + 1) (ReadsI.lit w [0, 7]) (by decide)).mono ?_
  rintro e w' ⟨rfl, rfl⟩
  rw [show ofRes [0, 7] = (129, 0) from by decide]
  go_wp2_with fail
  refine (list_any 6 _).mono ?_
  rintro e w1 ⟨v, rfl, ho, hb⟩
  obtain ⟨A, c, rfl, hr⟩ := ho.form
  go_wp2_with fail
  refine (eqI_any A _ _ 2 c 2 (kindsI (m8 6)) [1, 2] _ _ _ (hr.below ((Below.refl _ _).alloc (Nat.le_refl _) _)) (ReadsI.lit w1 [1, 2]) (by decide) (by decide)).mono ?_
  rintro e w' ⟨rfl, rfl⟩
  rw [show decide (kindsI (m8 6) = [1, 2]) = true from by decide]
  go_wp2_with fail
  refine (count_any 6 _).mono ?_
  rintro e w' ⟨rfl, rfl⟩
  rw [show (((kinds (m8 6)).length : Nat) : Int) = 2 from by decide]
  go_wp2_with fail
  go_ret
  refine ⟨rfl, ?_⟩
  exact ((((Below.refl _ _).alloc (Nat.le_refl _) _).trans (hb.mono (by simp))).alloc (by have := hb.size; simp at this; omega) _)

theorem maskBack_any (m : Int) (A : Option Addr) (n c : Nat) (zs : List Int) (w : World) (h : ReadsI w w.heap.size A n zs) (hn : n ≤ maxLen) :
    Calls Try.prog 3 #[.int .i64 m, .slice A n c] w fun e w' => e = .returned (.bool true) ∧ Below w.heap.size w w' := by
  have hlt := m8_lt m
  have hm : Hid (((m8 m : Nat) : Int) = m % 256) := m8_cast m
  go_enter Try.func3, Try.ntmps3
  go_wp2_with fail
  refine (masked_any _).mono ?_
  rintro e w1 ⟨rfl, hb1⟩
  go_wp2_with fail
  refine (rest_any m 256 _ (by omega) (by omega)).mono ?_
  rintro e w' ⟨rfl, rfl⟩
  rw [← hm.out]
  go_wp2_with fail
  have hself : Hid (m8 ((m8 m : Nat) : Int) = m8 m) := m8_self _ hlt
  generalize m8 m = M at *
  refine (list_any M _).mono ?_
  rintro e w2 ⟨v, rfl, ho, hb2⟩
  rw [hself.out] at ho
  obtain ⟨A1, c1, rfl, hr⟩ := ho.form
  go_wp2_with fail
  refine (of_any A1 _ _ (kindsI M) _ _ hr (by unfold maxLen; have := kindsI_len M; omega)).mono ?_
  rintro e w' ⟨rfl, rfl⟩
  rw [show ofRes (kindsI M) = (((M : Nat) : Int), 0) from ofRes_kinds M hlt]
  go_wp2_with fail
  refine (count_any M _).mono ?_
  rintro e w' ⟨rfl, rfl⟩
  rw [hself.out]
  go_wp2_with fail
  refine (list_any M _).mono ?_
  rintro e w3 ⟨v, rfl, ho3, hb3⟩
  rw [hself.out] at ho3
  obtain ⟨A3, c3, rfl, hr3⟩ := ho3.form
  have hlen : ((kindsI M).length) = (kinds M).length := by simp [kindsI]
  rw [hlen]
  clear hlen
  have hw3 : Below w.heap.size w w3 := (hb1.trans (hb2.mono hb1.size)).trans (hb3.mono (Nat.le_trans hb1.size hb2.size))
  have HW := Lib.hid hw3
  clear hb1 hb2 hb3 ho ho3 hr hr3
  go_wp2_with fail
  refine (of_any A n c zs _ _ (h.below hw3) hn).mono ?_
  rintro e w' ⟨rfl, rfl⟩
  by_cases hz : (ofRes zs).2 = 0
  · have hin : inKinds zs = true := by
      unfold ofRes at hz; split at hz
      · assumption
      · simp at hz
    have hnd : zs.Nodup := by
      unfold ofRes at hz; rw [if_pos hin] at hz; split at hz
      · assumption
      · simp at hz
    have hres : ofRes zs = (((maskOf zs : Nat) : Int), 0) := by unfold ofRes; rw [if_pos hin, if_pos hnd]
    have hY : maskOf zs < 256 := maskOf_lt _ ((inKinds_iff _).1 hin)
    have hmem : Hid (∀ k ∈ kindsI (maskOf zs), k ∈ zs) := by
      intro k hk
      obtain ⟨j, hj, rfl⟩ := List.mem_map.1 hk
      obtain ⟨q, hq, he⟩ := (testBit_maskOf zs j).1 ((mem_kinds _ _).1 hj).2
      have := (inKinds_iff _).1 hin q hq
      have : q = Int.ofNat j := by simp only [Int.ofNat_eq_natCast]; omega
      rwa [← this]
    have hcnt : Hid ((kinds (maskOf zs)).length = zs.length) := by
      unfold Hid; rw [(perm_maskOf zs ((inKinds_iff _).1 hin) hnd).length_eq, List.length_map]
    have hl := Lib.hid h.len
    rw [hres]
    clear hres hz hin hnd hself hm
    generalize maskOf zs = Y at *
    have hself : Hid (m8 ((Y : Nat) : Int) = Y) := m8_self _ hY
    have H := Lib.hid (h.below hw3)
    clear h
    unfold maxLen at hn
    go_wp2_with fail
    refine (list_any Y _).mono ?_
    rintro e w4 ⟨v, rfl, ho4, hb4⟩
    rw [hself.out] at ho4
    obtain ⟨A4, c4, rfl, hr4⟩ := ho4.form
    have hk8 := kindsI_len Y
    have HR := Lib.hid hr4
    have H4 := Lib.hid (H.out.below (hb4.mono hw3.size))
    have HW4 := Lib.hid (hw3.trans (hb4.mono hw3.size))
    clear hr4 ho4 hb4 hw3
    generalize hq : (kindsI Y).length = q at *
    have HQ := Lib.hid hq
    clear hq
    go_wp2_with fail
    go_loop [48] (fun i => ∃ k : Nat, k ≤ q ∧ i = .int .i64 k) (fun i => q - (intOf i).toNat)
    case atStart => exact ⟨0, Nat.zero_le _, rfl⟩
    case round =>
      obtain ⟨k, hk, rfl⟩ := hrel
      by_cases hlt2 : k < q
      · obtain ⟨b, o, rfl, _, hkl, hc⟩ := HR.out.at_ hlt2
        have hin2 := Lib.hid (hmem.out _ (List.getElem_mem hkl))
        go_wp2_with fail
        refine (hasI_any A n c zs (kindsI Y)[k] _ _ H4.out (by unfold maxLen; exact hn)).mono ?_
        rintro e w' ⟨rfl, rfl⟩
        rw [show decide ((kindsI Y)[k] ∈ zs) = true from by simpa using hin2.out]
        go_wp2_with fail
        go_round
        case rel => exact ⟨k + 1, by omega, by go_num⟩
        case measure => simp [intOf]; omega
      · go_wp2_with fail
        refine (count_any Y _).mono ?_
        rintro e w' ⟨rfl, rfl⟩
        rw [hself.out, hcnt.out, hl.out]
        go_wp2_with fail
        go_ret
        exact ⟨ret_bool (by simp), HW4.out⟩
  · have hz0 : (ofRes zs).1 = 0 := by unfold ofRes at hz ⊢; split <;> (try split) <;> simp_all
    rw [hz0]
    have hz1 : ((ofRes zs).2 != 0) = true := by simpa using hz
    clear hz hz0
    go_wp2_with fail
    go_ret
    exact ⟨rfl, HW.out⟩

end Go.Proofs.Ytmocljblfccglaa
