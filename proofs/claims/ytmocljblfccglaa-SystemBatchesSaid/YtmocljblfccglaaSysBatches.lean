/-
  The walk of the law SystemBatches.
-/
import Derived.Test.YtmocljblfccglaaPlan
namespace Go.Proofs.Ytmocljblfccglaa
open Go.RowKit

theorem SysIn.all {w : World} {B : Nat} {A : Option Addr} {ss : List Sys} (h : SysIn w B A ss) (h0 : 0 < ss.length) :
    ∃ b o, A = some ⟨b, o, none⟩ ∧ b < B ∧ ∀ k, k < ss.length → row? w b (o + k * 7) 7 = some (ints (ss.getD k zeroSys).list) := by
  obtain ⟨b, o, e, hlt, hr⟩ := h.2 (by simpa using h0)
  refine ⟨b, o, e, hlt, fun k hk => ?_⟩
  refine hr k _ ?_
  rw [List.getElem?_map, List.getElem?_eq_getElem hk]
  simp [List.getD, List.getElem?_eq_getElem hk]
theorem ReadsI.all {w : World} {B : Nat} {A : Option Addr} {n : Nat} {zs : List Int} (h : ReadsI w B A n zs) (h0 : 0 < n) :
    ∃ b o, A = some ⟨b, o, none⟩ ∧ b < B ∧ ∀ k, k < n → w.cell? ⟨b, o + k, none⟩ = some (.int .i64 (zs.getD k 0)) := by
  obtain ⟨b, o, e, hb, hc⟩ := h.2 h0
  refine ⟨b, o, e, hb, fun k hk => ?_⟩
  have hl := h.len
  refine hc k _ ?_
  rw [List.getElem?_map, List.getElem?_eq_getElem (by omega)]
  simp [List.getD, List.getElem?_eq_getElem (show k < zs.length by omega)]

theorem clash_is {s t : Sys} {v : Bool} (h : clashI s t = v) (w : World) : Calls Try.prog 36 #[.agg (ints s.list), .agg (ints t.list)] w fun e w' => e = .returned (.bool v) ∧ Below w.heap.size w w' := h ▸ clash_any s t w

set_option maxRecDepth 20000 in
set_option maxHeartbeats 8000000 in
theorem systemBatches_any (A : Option Addr) (c : Nat) (ss : List Sys) (w : World) (h : SysIn w w.heap.size A ss) (hn : ss.length ≤ maxLen) :
    Calls Try.prog 13 #[.slice A ss.length c] w fun e w' => e = .returned (.bool true) ∧ Below w.heap.size w w' := by
  have H := Lib.hid h
  have hnm : (ss.length : Int) ≤ 9223372036854775807 := by unfold maxLen at hn; omega
  clear h
  go_enter Try.func13, Try.ntmps13
  go_wp2_with fail
  refine (stepped_any _).mono ?_
  rintro e w1 ⟨rfl, hb1⟩
  have HB1 := Lib.hid hb1
  have H1 : Hid (SysIn w1 w.heap.size A ss) := H.out.below hb1
  clear hb1 H
  go_wp2_with fail
  refine (plan_any A c ss w1 (Chunks.more H1.out HB1.out.size) hn).mono ?_
  rintro e w2 ⟨v, rfl, hv, hb2⟩
  have HB2 : Hid (Below w.heap.size w w2) := HB1.out.trans (hb2.mono HB1.out.size)
  have H2 : Hid (SysIn w2 w2.heap.size A ss) := Chunks.more (H1.out.below (hb2.mono HB1.out.size)) HB2.out.size
  obtain ⟨A', c', rfl, hr⟩ := hv.form
  have HR := Lib.hid hr
  clear hv hb2 H1 HB1 hr
  by_cases hE : (planRes ss).2 = 0
  rotate_left
  · have h1 : (planRes ss).1 = [] := by
      unfold planRes at hE ⊢
      split
      · rfl
      · split
        · rename_i h1 h2; rw [if_neg h1, if_pos h2] at hE; exact absurd rfl hE
        · rfl
    have hE' : ((planRes ss).2 != 0) = true := by simpa using hE
    rw [h1]
    clear hE
    generalize (planRes ss).2 = E at *
    go_wp2_with fail
    go_ret
    exact ⟨rfl, HB2.out⟩
  have hlaw : Hid (∀ i, i < ss.length →
    (∀ k, k < i → clashI (ss.getD k zeroSys) (ss.getD i zeroSys) = true → (planRes ss).1.getD k 0 < (planRes ss).1.getD i 0) ∧
    needAt ss (planRes ss).1 i i = true ∧
    (∀ k, k < ss.length → k ≠ i → (planRes ss).1.getD k 0 = (planRes ss).1.getD i 0 → clashI (ss.getD k zeroSys) (ss.getD i zeroSys) = false) ∧ 0 ≤ (planRes ss).1.getD i 0 ∧ (planRes ss).1.getD i 0 ≤ 20) ∧ Hid ((planRes ss).1.length = ss.length) := by
    unfold planRes at hE ⊢
    split
    · rename_i h1; rw [if_pos h1] at hE; simp at hE
    · rename_i h1
      split
      · rename_i h2
        refine ⟨fun i hi => ?_, planN_len _ _⟩
        obtain ⟨a1, a2, a3⟩ := plan_law ss (firstErr_all h2) (fun s hs => ⟨(sysErr_ok hs).2.2.2.1, (sysErr_ok hs).2.2.2.2.1⟩) i hi
        have := plan_le ss ss.length i hi
        exact ⟨a1, a2, a3, this.1, by simp only; omega⟩
      · rename_i h2; rw [if_neg h1, if_neg h2] at hE; exact absurd hE h2
  obtain ⟨HL, hpl⟩ := hlaw
  rw [hpl.out] at HR ⊢
  rw [hE]
  clear hE hpl
  generalize (planRes ss).1 = p at *
  go_wp2_with fail
  go_loopw [28] (fun i w' => ∃ k : Nat, k ≤ ss.length ∧ i = .int .i64 k ∧ Below w2.heap.size w2 w') (fun i _ => ss.length - (intOf i).toNat)
  case atStart => exact ⟨0, by omega, rfl, Below.refl _ _⟩
  case round =>
    obtain ⟨i, hi, rfl, hbr⟩ := hrel
    by_cases hlt : i < ss.length
    rotate_left
    · have HBR : Hid (Below w.heap.size w wr) := HB2.out.trans (hbr.mono HB2.out.size)
      have : i = ss.length := by omega
      subst this
      clear hbr
      go_wp2_with fail
      go_ret
      exact ⟨rfl, HBR.out⟩
    have hlti : (i : Int) < ss.length := by omega
    obtain ⟨b, o, rfl, hbl, hrow0⟩ := H2.out.all (by omega)
    obtain ⟨bp, op, rfl, hbp, hcell0⟩ := HR.out.all (by omega)
    have hrow : Hid (∀ W, Below w2.heap.size w2 W → ∀ k, k < ss.length → row? W b (o + k * 7) 7 = some (ints (ss.getD k zeroSys).list)) := fun W hW k hk => (row_below hW hbl _ _).trans (hrow0 k hk)
    have hcell : Hid (∀ W, Below w2.heap.size w2 W → ∀ k, k < ss.length → W.cell? ⟨bp, op + k, none⟩ = some (.int .i64 (p.getD k 0))) := fun W hW k hk => (hW.cell (p := ⟨bp, op + k, none⟩) hbp).trans (hcell0 k hk)
    clear hrow0 hcell0 hbl hbp HR H2
    obtain ⟨L1, L2, L3, L4, L5⟩ := HL.out i hlt
    have L1 := Lib.hid L1
    have L2 := Lib.hid L2
    have L3 := Lib.hid L3
    have HBR := Lib.hid hbr
    clear hbr
    have hp := hcell.out wr HBR.out i hlt
    have hN0 : Hid (needAt ss p i 0 = (p.getD i 0 == 0)) := rfl
    generalize hpi : p.getD i 0 = pi at *
    have HPI := Lib.hid hpi
    clear hpi
    generalize hsi : ss.getD i zeroSys = si at *
    have HSI := Lib.hid hsi
    clear hsi
    go_wp2_with fail
    go_loopw [37, 6] (fun j q w' => ∃ k : Nat, k ≤ i ∧ j = .int .i64 k ∧ q = .bool (needAt ss p i k) ∧ Below w2.heap.size w2 w') (fun j _ _ => i - (intOf j).toNat)
    case atStart => exact ⟨0, by omega, rfl, by rw [hN0.out], HBR.out⟩
    case round =>
      clear hp HBR hN0
      obtain ⟨k, hk, rfl, rfl, hbr⟩ := hrel
      have HBR := Lib.hid hbr
      clear hbr
      by_cases hki : k < i
      · have hkI : (k : Int) < i := by omega
        have hkn : (k : Int) < ss.length := by omega
        have hNk : Hid (needAt ss p i (k + 1) = (needAt ss p i k || (clashI (ss.getD k zeroSys) (ss.getD i zeroSys) && p.getD k 0 == p.getD i 0 - 1))) := rfl
        rw [HSI.out, HPI.out] at hNk
        have r1 : Hid (∀ W, Below w2.heap.size w2 W → row? W b (o + k * 7) 7 = some (ints (ss.getD k zeroSys).list)) := fun W hW => hrow.out W hW k (by omega)
        have r2 : Hid (∀ W, Below w2.heap.size w2 W → row? W b (o + i * 7) 7 = some (ints si.list)) := fun W hW => by rw [← HSI.out]; exact hrow.out W hW i hlt
        have r3 : Hid (∀ W, Below w2.heap.size w2 W → W.cell? ⟨bp, op + k, none⟩ = some (.int .i64 (p.getD k 0))) := fun W hW => hcell.out W hW k (by omega)
        have r4 : Hid (∀ W, Below w2.heap.size w2 W → W.cell? ⟨bp, op + i, none⟩ = some (.int .i64 pi)) := fun W hW => by rw [← HPI.out]; exact hcell.out W hW i hlt
        have hl1 := L1.out k hki
        generalize p.getD k 0 = pk at *
        generalize ss.getD k zeroSys = sk at *
        have hsub : IntKind.i64.wrap (pi - 1) = pi - 1 := IntWalk.i64_in _ (by omega)
        have hcases : (∃ N D, clashI sk si = true ∧ decide (pk ≥ pi) = false ∧ needAt ss p i k = N ∧ (pk == pi - 1) = D ∧ needAt ss p i (k + 1) = (N || D)) ∨ (∃ N, clashI sk si = false ∧ needAt ss p i k = N ∧ needAt ss p i (k + 1) = N) := by
          have h := hNk.out
          cases hC : clashI sk si
          · rw [hC] at h; right; exact ⟨_, rfl, rfl, by simpa using h⟩
          · rw [hC] at h; left; exact ⟨_, _, rfl, by have := hl1 hC; simp; omega, rfl, rfl, by simpa using h⟩
        clear hl1 hNk
        rcases hcases with ⟨N, D, hC, hge, hN, hD, hN1⟩ | ⟨N, hC, hN, hN1⟩
        all_goals
          have HC := Lib.hid hC
          have HN1 := Lib.hid hN1
          rw [hN]
          clear hC hN hN1
          have c1 := fun n : After wr => r1.out n.w (HBR.out.trans (n.below.mono HBR.out.size))
          have c2 := fun n : After wr => r2.out n.w (HBR.out.trans (n.below.mono HBR.out.size))
          have c3 := fun n : After wr => r3.out n.w (HBR.out.trans (n.below.mono HBR.out.size))
          have c4 := fun n : After wr => r4.out n.w (HBR.out.trans (n.below.mono HBR.out.size))
          go_upto_region 15 with (fail)
          refine wp_region_after (by kernel_rfl) (by kernel_rfl) ?_
          repeat (go_big_quiet_step (first
            | (go_at_call 36; with_reducible exact quiet_after (clash_is HC.out _))))
          refine wpQuiet_nil ?_
          rintro _ ⟨n, rfl⟩
          have HBn : Hid (Below w2.heap.size w2 n.w) := HBR.out.trans (n.below.mono HBR.out.size)
          clear c1 c2 c3 c4
          have c1 := fun m : After n.w => r1.out m.w (HBn.out.trans (m.below.mono HBn.out.size))
          have c2 := fun m : After n.w => r2.out m.w (HBn.out.trans (m.below.mono HBn.out.size))
          have c3 := fun m : After n.w => r3.out m.w (HBn.out.trans (m.below.mono HBn.out.size))
          have c4 := fun m : After n.w => r4.out m.w (HBn.out.trans (m.below.mono HBn.out.size))
          cases N
          all_goals
            go_upto_region 17 with (fail)
            refine wp_region_after (by kernel_rfl) (by kernel_rfl) ?_
            repeat (go_big_quiet_step (first
              | (go_at_call 36; with_reducible exact quiet_after (clash_is HC.out _))))
            refine wpQuiet_nil ?_
            rintro _ ⟨m, rfl⟩
            have HBm : Hid (Below w2.heap.size w2 m.w) := HBn.out.trans (m.below.mono HBn.out.size)
            clear c1 c2 c3 c4
            go_wp2_with fail
            go_roundw
            case rel => exact ⟨k + 1, by omega, by go_num, by first | (rw [HN1.out]; done) | (rw [HN1.out]; simp; done), HBm.out⟩
            case measure => simp [intOf]; omega
      · have : k = i := by omega
        subst this
        rw [L2.out]
        go_wp2_with fail
        go_loopw [87] (fun j w' => ∃ q : Nat, q ≤ ss.length ∧ j = .int .i64 q ∧ Below w2.heap.size w2 w') (fun j _ => ss.length - (intOf j).toNat)
        case atStart => exact ⟨0, by omega, rfl, HBR.out⟩
        case round =>
          clear HBR
          obtain ⟨q, hq, rfl, hbr⟩ := hrel
          have HBR := Lib.hid hbr
          clear hbr
          by_cases hqn : q < ss.length
          · have hqI : (q : Int) < ss.length := by omega
            have r1 : Hid (∀ W, Below w2.heap.size w2 W → row? W b (o + q * 7) 7 = some (ints (ss.getD q zeroSys).list)) := fun W hW => hrow.out W hW q (by omega)
            have r2 : Hid (∀ W, Below w2.heap.size w2 W → row? W b (o + k * 7) 7 = some (ints si.list)) := fun W hW => by rw [← HSI.out]; exact hrow.out W hW k hlt
            have r3 : Hid (∀ W, Below w2.heap.size w2 W → W.cell? ⟨bp, op + q, none⟩ = some (.int .i64 (p.getD q 0))) := fun W hW => hcell.out W hW q (by omega)
            have r4 : Hid (∀ W, Below w2.heap.size w2 W → W.cell? ⟨bp, op + k, none⟩ = some (.int .i64 pi)) := fun W hW => by rw [← HPI.out]; exact hcell.out W hW k hlt
            have hl3 := L3.out q hqn
            generalize p.getD q 0 = pq at *
            generalize ss.getD q zeroSys = sq at *
            have hcases : ((q : Int) != (k : Int)) = false ∨ (((q : Int) != (k : Int)) = true ∧ (pq == pi) = false) ∨ (((q : Int) != (k : Int)) = true ∧ (pq == pi) = true ∧ clashI sq si = false) := by
              by_cases h1 : q = k
              · left; simp [h1]
              · right
                have h1' : ((q : Int) != (k : Int)) = true := by simp; omega
                by_cases h2 : pq = pi
                · right; exact ⟨h1', by simpa using h2, hl3 h1 h2⟩
                · left; exact ⟨h1', by simpa using h2⟩
            clear hl3
            have c1 := fun n : After wr => r1.out n.w (HBR.out.trans (n.below.mono HBR.out.size))
            have c2 := fun n : After wr => r2.out n.w (HBR.out.trans (n.below.mono HBR.out.size))
            have c3 := fun n : After wr => r3.out n.w (HBR.out.trans (n.below.mono HBR.out.size))
            have c4 := fun n : After wr => r4.out n.w (HBR.out.trans (n.below.mono HBR.out.size))
            rcases hcases with h1 | ⟨h1, h2⟩ | ⟨h1, h2, h3⟩
            rotate_left 2
            · have HC := Lib.hid h3
              clear h3
              go_upto_region 22 with (fail)
              refine wp_region_after (by kernel_rfl) (by kernel_rfl) ?_
              repeat (go_big_quiet_step (first
                | (go_at_call 36; with_reducible exact quiet_after (clash_is HC.out _))))
              refine wpQuiet_nil ?_
              rintro _ ⟨n, rfl⟩
              have HBn : Hid (Below w2.heap.size w2 n.w) := HBR.out.trans (n.below.mono HBR.out.size)
              clear c1 c2 c3 c4
              go_wp2_with fail
              go_roundw
              case rel => exact ⟨q + 1, by omega, by go_num, HBn.out⟩
              case measure => simp [intOf]; omega
            all_goals
              go_upto_region 22 with (fail)
              refine wp_region_after (by kernel_rfl) (by kernel_rfl) ?_
              repeat (go_big_quiet_step (fail))
              refine wpQuiet_nil ?_
              rintro _ ⟨n, rfl⟩
              have HBn : Hid (Below w2.heap.size w2 n.w) := HBR.out.trans (n.below.mono HBR.out.size)
              clear c1 c2 c3 c4
              go_wp2_with fail
              go_roundw
              case rel => exact ⟨q + 1, by omega, by go_num, HBn.out⟩
              case measure => simp [intOf]; omega
          · have : q = ss.length := by omega
            subst this
            go_wp2_with fail
            go_roundw
            case rel => exact ⟨k + 1, by omega, by go_num, HBR.out⟩
            case measure => simp [intOf]; omega

end Go.Proofs.Ytmocljblfccglaa
