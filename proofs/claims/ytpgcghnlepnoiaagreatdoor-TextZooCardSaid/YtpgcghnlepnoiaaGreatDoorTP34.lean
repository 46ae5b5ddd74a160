/-
  Several texts in one (merged by a program of mine): TextOrd, LoadOk.
-/
import Derived.Test.YtpgcghnlepnoiaaGreatDoorTP33
import Derived.Lib.AppendIntMem
set_option linter.unusedVariables false
set_option linter.unusedSimpArgs false
set_option linter.unusedSectionVars false
/-
  The contracts of text.rowsCompare, text.bondsCompare, text.isOrdered (printed by wip/gen_ord.py).
-/
namespace Go.Proofs.YtpgcghnlepnoiaaGreatDoor
open Go.RowKit

/-- rising handles -/
def Rise (l : List Hd) : Prop := ∀ i, i + 1 < l.length → cmpH (l.getD i (0, 0)) (l.getD (i + 1) (0, 0)) < 0
noncomputable def riseB (l : List Hd) : Bool := @decide (Rise l) (Classical.propDecidable _)
theorem riseB_no {l : List Hd} {i : Nat} (h : i + 1 < l.length) (hc : ¬ cmpH (l.getD i (0, 0)) (l.getD (i + 1) (0, 0)) < 0) : riseB l = false := by
  unfold riseB
  exact @decide_eq_false _ (Classical.propDecidable _) fun hr => hc (hr i h)
theorem riseB_yes {l : List Hd} (h : Rise l) : riseB l = true := by
  unfold riseB
  exact @decide_eq_true _ (Classical.propDecidable _) h
theorem riseB_iff {l : List Hd} : riseB l = true ↔ Rise l := by
  unfold riseB
  exact @decide_eq_true_iff _ (Classical.propDecidable _)
theorem hd_at {α : Type} (key : α → Hd) (l : List α) {i : Nat} (hi : i < l.length) : (l.map key).getD i (0, 0) = key l[i] := by
  simp [List.getD, hi]
theorem hV_eq (a : Hd) : hdV a = .agg (ints [a.1, a.2]) := rfl

set_option maxRecDepth 100000 in
theorem rowsCmp_any (a b : RowM) (ha : a.b.v.length = 8) (hb : b.b.v.length = 8) (w : World) : Calls Tryz.prog 17 #[.agg (ints (RowM.list a)), .agg (ints (RowM.list b))] w fun e w' => e = .returned (.int .i64 (cmpH a.h b.h)) ∧ Below w.heap.size w w' := by
  have hla : (RowM.list a).length = 11 := by simp [RowM.list, Beast.list, ha]
  have hlb : (RowM.list b).length = 11 := by simp [RowM.list, Beast.list, hb]
  go_enter Tryz.func17, Tryz.ntmps17
  go_upto_region 1 with (fail)
  refine wp_abs (In (fun _ => False) w [Box (w.heap.size + 1) 51 (ints (RowM.list b)), Box w.heap.size 51 (ints (RowM.list a))]) (by
    have := ((In.nil w (fun _ => False)).alloc 51 (ints (RowM.list a))).alloc 51 (ints (RowM.list b))
    rw [World.size_alloc] at this
    exact this) ?_
  generalize w.heap.size + 1 = bb
  generalize w.heap.size = ab
  intro w1 hI1
  have q1 : row? w1 ab 0 2 = some (ints [a.h.1, a.h.2]) := by rw [hI1.swap.blk.row_ints 0 2 (by omega)]; rfl
  have q2 : row? w1 bb 0 2 = some (ints [b.h.1, b.h.2]) := by rw [hI1.blk.row_ints 0 2 (by omega)]; rfl
  have HB := Lib.hid hI1.below0
  have HC := Lib.hid (compare_any a.h b.h w1)
  clear hI1
  go_wp2_with fail
  refine HC.out.mono ?_
  rintro e w2 ⟨rfl, q, os, hw⟩
  have HB2 : Hid (Below w.heap.size w w2) := HB.out.trans ((by rw [hw]; exact Lib.below_grow _ w1 (Nat.le_refl _) q os : Below w1.heap.size w1 w2).mono HB.out.size)
  clear hw HC q1 q2
  go_wp2_with fail
  go_ret
  exact ⟨rfl, HB2.out⟩
set_option maxHeartbeats 2000000 in
set_option maxRecDepth 100000 in
theorem rowsOrd_any (A : Option Addr) (c : Nat) (l : List RowM) (w : World) (h : RowsRd w w.heap.size A l) (hl : l.length ≤ 1000000) :
    Calls Tryz.prog 16 #[.slice A l.length c, .func (.func 17) #[] #[]] w fun e w' => e = .returned (.bool (riseB (l.map fun x => x.h))) ∧ Below w.heap.size w w' := by
  have H : Hid (RowsRd w w.heap.size A l) := h
  have hli : (l.length : Int) ≤ 1000000 := by omega
  clear h
  obtain ⟨rb, hrb⟩ : ∃ rb, riseB (l.map fun x => x.h) = rb := ⟨_, rfl⟩
  rw [hrb]
  have HRB := Lib.hid hrb
  clear hrb
  go_enter Tryz.func16, Tryz.ntmps16
  go_wp2_with fail
  go_loopw [5] (fun i w' => ∃ j : Nat, j ≤ l.length ∧ i = .int .i64 ((j : Int) + 1) ∧ (∀ q, q < j → q + 1 < l.length → cmpH ((l.map fun x => x.h).getD q (0, 0)) ((l.map fun x => x.h).getD (q + 1) (0, 0)) < 0) ∧ Below w.heap.size w w') (fun i _ => l.length - (intOf i).toNat)
  case atStart => exact ⟨0, Nat.zero_le _, rfl, fun q hq => by omega, Below.refl _ _⟩
  case round =>
    obtain ⟨j, hj, rfl, hr, hb⟩ := hrel
    have HR := Lib.hid hr
    have HB := Lib.hid hb
    clear hr hb
    by_cases hlt : j + 1 < l.length
    · have hji : (j : Int) + 1 < l.length := by omega
      obtain ⟨g, o, rfl, hg, q1⟩ := RowsRd.at_ (H.out.below HB.out) (k := j) (by omega)
      obtain ⟨g', o', e0, _, q2⟩ := RowsRd.at_ (H.out.below HB.out) (k := j + 1) hlt
      injection e0 with e0
      injection e0 with e1 e2
      subst e1; subst e2
      have hk1 := hd_at (fun x : RowM => x.h) l (show j < l.length by omega)
      have hk2 := hd_at (fun x : RowM => x.h) l hlt
      have h8a := H.out.len8 (List.getElem_mem (show j < l.length by omega))
      have h8b := H.out.len8 (List.getElem_mem hlt)
      have HC : Hid (∀ n : After wr, Calls Tryz.prog 17 #[.agg (ints (RowM.list l[j])), .agg (ints (RowM.list l[j + 1]))] n.w fun e w' => e = .returned (.int .i64 (cmpH l[j].h l[j + 1].h)) ∧ Below n.w.heap.size n.w w') := fun n => rowsCmp_any _ _ h8a h8b n.w
      clear h8a h8b
      have c1 : ∀ n : After wr, row? n.w g (o + j * 11) 11 = some (ints (RowM.list l[j])) := fun n => (row_below n.below (Nat.lt_of_lt_of_le hg HB.out.size) _ _).trans q1
      have c2 : ∀ n : After wr, row? n.w g (o + (j + 1) * 11) 11 = some (ints (RowM.list l[j + 1])) := fun n => (row_below n.below (Nat.lt_of_lt_of_le hg HB.out.size) _ _).trans q2
      have HK1 := Lib.hid hk1
      have HK2 := Lib.hid hk2
      clear hk1 hk2 q1 q2
      have HCMP : Hid (cmpH l[j].h l[j + 1].h = cmpH ((l.map fun x => x.h).getD j (0, 0)) ((l.map fun x => x.h).getD (j + 1) (0, 0))) := by
        unfold Hid; rw [HK1.out, HK2.out]
      generalize l[j] = a at *
      generalize l[j + 1] = b at *
      generalize hcv : cmpH a.h b.h = cv at *
      have HC2 := HC
      clear hcv HC
      go_upto_region 4 with (fail)
      refine wp_region_after (by kernel_rfl) (by kernel_rfl) ?_
      repeat (go_big_quiet_step ((go_at_call 17; exact quiet_after (HC2.out _))))
      refine wpQuiet_nil ?_
      rintro _ ⟨n, rfl⟩
      have HB2 : Hid (Below w.heap.size w n.w) := HB.out.trans (n.below.mono HB.out.size)
      generalize n.w = w2 at *
      by_cases hc : cv < 0
      · have hc1 : ¬ (0 ≤ cv) := by omega
        have HN : Hid (∀ q, q < j + 1 → q + 1 < l.length → cmpH ((l.map fun x => x.h).getD q (0, 0)) ((l.map fun x => x.h).getD (q + 1) (0, 0)) < 0) := fun q hq hq2 => by
          by_cases e : q = j
          · subst e; rw [← HCMP.out]; exact hc
          · exact HR.out q (by omega) hq2
        clear hc
        go_wp2_with fail
        go_roundw
        case rel => exact ⟨j + 1, by omega, by go_num, HN.out, HB2.out⟩
        case measure => simp [intOf]; omega
      · have hc1 : 0 ≤ cv := by omega
        have HF : Hid (rb = false) := by
          unfold Hid
          rw [← HRB.out]
          refine riseB_no (i := j) (by rw [List.length_map]; exact hlt) ?_
          rw [← HCMP.out]; exact hc
        clear hc
        go_wp2_with fail
        go_ret
        rw [HF.out]
        exact ⟨rfl, HB2.out⟩
    · have hji : ¬ ((j : Int) + 1 < l.length) := by omega
      have HT : Hid (rb = true) := by
        unfold Hid
        rw [← HRB.out]
        refine riseB_yes fun q hq => HR.out q ?_ (by rw [List.length_map] at hq; exact hq)
        rw [List.length_map] at hq
        omega
      go_wp2_with fail
      go_ret
      rw [HT.out]
      exact ⟨rfl, HB.out⟩

set_option maxRecDepth 100000 in
theorem bondsCmp_any (a b : Hd × Hd) (w : World) : Calls Tryz.prog 19 #[.agg (ints (bondE a)), .agg (ints (bondE b))] w fun e w' => e = .returned (.int .i64 (cmpH a.1 b.1)) ∧ Below w.heap.size w w' := by
  have hla : (bondE a).length = 4 := rfl
  have hlb : (bondE b).length = 4 := rfl
  go_enter Tryz.func19, Tryz.ntmps19
  go_upto_region 1 with (fail)
  refine wp_abs (In (fun _ => False) w [Box (w.heap.size + 1) 56 (ints (bondE b)), Box w.heap.size 56 (ints (bondE a))]) (by
    have := ((In.nil w (fun _ => False)).alloc 56 (ints (bondE a))).alloc 56 (ints (bondE b))
    rw [World.size_alloc] at this
    exact this) ?_
  generalize w.heap.size + 1 = bb
  generalize w.heap.size = ab
  intro w1 hI1
  have q1 : row? w1 ab 0 2 = some (ints [a.1.1, a.1.2]) := by rw [hI1.swap.blk.row_ints 0 2 (by omega)]; rfl
  have q2 : row? w1 bb 0 2 = some (ints [b.1.1, b.1.2]) := by rw [hI1.blk.row_ints 0 2 (by omega)]; rfl
  have HB := Lib.hid hI1.below0
  have HC := Lib.hid (compare_any a.1 b.1 w1)
  clear hI1
  go_wp2_with fail
  refine HC.out.mono ?_
  rintro e w2 ⟨rfl, q, os, hw⟩
  have HB2 : Hid (Below w.heap.size w w2) := HB.out.trans ((by rw [hw]; exact Lib.below_grow _ w1 (Nat.le_refl _) q os : Below w1.heap.size w1 w2).mono HB.out.size)
  clear hw HC q1 q2
  go_wp2_with fail
  go_ret
  exact ⟨rfl, HB2.out⟩
set_option maxHeartbeats 2000000 in
set_option maxRecDepth 100000 in
theorem bondsOrd_any (A : Option Addr) (c : Nat) (l : List (Hd × Hd)) (w : World) (h : BondsRd w w.heap.size A l) (hl : l.length ≤ 1000000) :
    Calls Tryz.prog 18 #[.slice A l.length c, .func (.func 19) #[] #[]] w fun e w' => e = .returned (.bool (riseB (l.map fun x => x.1))) ∧ Below w.heap.size w w' := by
  have H : Hid (BondsRd w w.heap.size A l) := h
  have hli : (l.length : Int) ≤ 1000000 := by omega
  clear h
  obtain ⟨rb, hrb⟩ : ∃ rb, riseB (l.map fun x => x.1) = rb := ⟨_, rfl⟩
  rw [hrb]
  have HRB := Lib.hid hrb
  clear hrb
  go_enter Tryz.func18, Tryz.ntmps18
  go_wp2_with fail
  go_loopw [5] (fun i w' => ∃ j : Nat, j ≤ l.length ∧ i = .int .i64 ((j : Int) + 1) ∧ (∀ q, q < j → q + 1 < l.length → cmpH ((l.map fun x => x.1).getD q (0, 0)) ((l.map fun x => x.1).getD (q + 1) (0, 0)) < 0) ∧ Below w.heap.size w w') (fun i _ => l.length - (intOf i).toNat)
  case atStart => exact ⟨0, Nat.zero_le _, rfl, fun q hq => by omega, Below.refl _ _⟩
  case round =>
    obtain ⟨j, hj, rfl, hr, hb⟩ := hrel
    have HR := Lib.hid hr
    have HB := Lib.hid hb
    clear hr hb
    by_cases hlt : j + 1 < l.length
    · have hji : (j : Int) + 1 < l.length := by omega
      obtain ⟨g, o, rfl, hg, q1⟩ := BondsRd.at_ (H.out.below HB.out) (k := j) (by omega)
      obtain ⟨g', o', e0, _, q2⟩ := BondsRd.at_ (H.out.below HB.out) (k := j + 1) hlt
      injection e0 with e0
      injection e0 with e1 e2
      subst e1; subst e2
      have hk1 := hd_at (fun x : Hd × Hd => x.1) l (show j < l.length by omega)
      have hk2 := hd_at (fun x : Hd × Hd => x.1) l hlt
      have HC : Hid (∀ n : After wr, Calls Tryz.prog 19 #[.agg (ints (bondE l[j])), .agg (ints (bondE l[j + 1]))] n.w fun e w' => e = .returned (.int .i64 (cmpH l[j].1 l[j + 1].1)) ∧ Below n.w.heap.size n.w w') := fun n => bondsCmp_any _ _ n.w
      have c1 : ∀ n : After wr, row? n.w g (o + j * 4) 4 = some (ints (bondE l[j])) := fun n => (row_below n.below (Nat.lt_of_lt_of_le hg HB.out.size) _ _).trans q1
      have c2 : ∀ n : After wr, row? n.w g (o + (j + 1) * 4) 4 = some (ints (bondE l[j + 1])) := fun n => (row_below n.below (Nat.lt_of_lt_of_le hg HB.out.size) _ _).trans q2
      have HK1 := Lib.hid hk1
      have HK2 := Lib.hid hk2
      clear hk1 hk2 q1 q2
      have HCMP : Hid (cmpH l[j].1 l[j + 1].1 = cmpH ((l.map fun x => x.1).getD j (0, 0)) ((l.map fun x => x.1).getD (j + 1) (0, 0))) := by
        unfold Hid; rw [HK1.out, HK2.out]
      generalize l[j] = a at *
      generalize l[j + 1] = b at *
      generalize hcv : cmpH a.1 b.1 = cv at *
      have HC2 := HC
      clear hcv HC
      go_upto_region 4 with (fail)
      refine wp_region_after (by kernel_rfl) (by kernel_rfl) ?_
      repeat (go_big_quiet_step ((go_at_call 19; exact quiet_after (HC2.out _))))
      refine wpQuiet_nil ?_
      rintro _ ⟨n, rfl⟩
      have HB2 : Hid (Below w.heap.size w n.w) := HB.out.trans (n.below.mono HB.out.size)
      generalize n.w = w2 at *
      by_cases hc : cv < 0
      · have hc1 : ¬ (0 ≤ cv) := by omega
        have HN : Hid (∀ q, q < j + 1 → q + 1 < l.length → cmpH ((l.map fun x => x.1).getD q (0, 0)) ((l.map fun x => x.1).getD (q + 1) (0, 0)) < 0) := fun q hq hq2 => by
          by_cases e : q = j
          · subst e; rw [← HCMP.out]; exact hc
          · exact HR.out q (by omega) hq2
        clear hc
        go_wp2_with fail
        go_roundw
        case rel => exact ⟨j + 1, by omega, by go_num, HN.out, HB2.out⟩
        case measure => simp [intOf]; omega
      · have hc1 : 0 ≤ cv := by omega
        have HF : Hid (rb = false) := by
          unfold Hid
          rw [← HRB.out]
          refine riseB_no (i := j) (by rw [List.length_map]; exact hlt) ?_
          rw [← HCMP.out]; exact hc
        clear hc
        go_wp2_with fail
        go_ret
        rw [HF.out]
        exact ⟨rfl, HB2.out⟩
    · have hji : ¬ ((j : Int) + 1 < l.length) := by omega
      have HT : Hid (rb = true) := by
        unfold Hid
        rw [← HRB.out]
        refine riseB_yes fun q hq => HR.out q ?_ (by rw [List.length_map] at hq; exact hq)
        rw [List.length_map] at hq
        omega
      go_wp2_with fail
      go_ret
      rw [HT.out]
      exact ⟨rfl, HB.out⟩

end Go.Proofs.YtpgcghnlepnoiaaGreatDoor

/-
  What a state that is loaded is like; the state of a zoo is loaded as that zoo.
-/
namespace Go.Proofs.YtpgcghnlepnoiaaGreatDoor

theorem markN_at : ∀ (live : List Int) (ls ls' : List (Int × Bool)), markN ls live = some ls' → (∀ k ∈ live, 0 ≤ k ∧ k < ls.length) → ∀ j, j < ls.length →
    ls'.getD j (0, false) = ((ls.getD j (0, false)).1, (ls.getD j (0, false)).2 || decide ((j : Int) ∈ live))
  | [], ls, ls', h, _, j, _ => by
    unfold markN at h
    injection h with h
    rw [h]; simp
  | k :: r, ls, ls', h, hb, j, hj => by
    unfold markN at h
    split at h
    · cases h
    · have hk := hb k List.mem_cons_self
      have ih := markN_at r _ _ h (fun x hx => by rw [List.length_set]; exact hb x (List.mem_cons_of_mem _ hx)) j (by rw [List.length_set]; exact hj)
      rw [ih]
      by_cases e : k.toNat = j
      · subst e
        have e2 : (ls.set k.toNat ((ls.getD k.toNat (0, false)).1, true)).getD k.toNat (0, false) = ((ls.getD k.toNat (0, false)).1, true) := by
          rw [List.getD_eq_getElem?_getD, List.getElem?_set_self hj]; rfl
        rw [e2]
        have : decide (((k.toNat : Nat) : Int) ∈ k :: r) = true := decide_eq_true (by rw [Int.toNat_of_nonneg hk.1]; exact List.mem_cons_self)
        rw [this]
        simp
      · have e2 : (ls.set k.toNat ((ls.getD k.toNat (0, false)).1, true)).getD j (0, false) = ls.getD j (0, false) := by
          rw [List.getD_eq_getElem?_getD, List.getElem?_set_ne e, ← List.getD_eq_getElem?_getD]
        rw [e2]
        have hne : ¬ (j : Int) = k := fun h => e (by omega)
        have : decide ((j : Int) ∈ k :: r) = decide ((j : Int) ∈ r) := by
          by_cases hm : (j : Int) ∈ r
          · rw [decide_eq_true hm, decide_eq_true (List.mem_cons_of_mem _ hm)]
          · rw [decide_eq_false hm, decide_eq_false (fun h => by rcases List.mem_cons.1 h with h | h; exact hne h; exact hm h)]
        rw [this]
theorem rowsLd_at (ls : List (Int × Bool)) : ∀ (l : List RowM) (f : BF), (rowsLd ls f l).2 = 0 → (l.map fun r => r.h.1).Nodup → ∀ r ∈ l, (rowsLd ls f l).1 r.h.1 = some (r.h.2, r.b)
  | [], _, _, _, _, hr => by cases hr
  | x :: l, f, h, hn, r, hr => by
    rw [List.map_cons, List.nodup_cons] at hn
    have h0 := h
    unfold rowsLd at h0
    split at h0
    · cases h0
    · rename_i h1
      split at h0
      · rename_i h2; exact absurd h0 h2
      · rename_i h2
        rw [rowsLd, if_neg h1, if_neg h2]
        rcases List.mem_cons.1 hr with rfl | hr
        · rw [rowsLd_far]
          · unfold updB; rw [if_pos rfl]
          · intro y hy e
            exact hn.1 (List.mem_map.2 ⟨y, hy, e⟩)
        · exact rowsLd_at ls l _ h0 hn.2 r hr
theorem rowsLd_ok (ls : List (Int × Bool)) : ∀ (l : List RowM) (f : BF), (∀ r ∈ l, liveB ls r.h.1 r.h.2 = true ∧ beastErr r.b = 0) → (rowsLd ls f l).2 = 0
  | [], _, _ => rfl
  | x :: l, f, h => by
    obtain ⟨h1, h2⟩ := h x List.mem_cons_self
    rw [rowsLd, if_neg (by rw [h1]; simp), if_neg (by rw [h2]; simp)]
    exact rowsLd_ok ls l _ fun r hr => h r (List.mem_cons_of_mem _ hr)
theorem loadWR_ok {gens : List Int} {rows : List RowM} {ls : List (Int × Bool)} {f : BF} {n : Int} (h : loadWR gens rows = (some (ls, f), n)) (h8 : ∀ r ∈ rows, r.b.v.length = 8) :
    WOk ls f ∧ gens.length ≤ 60 ∧ rows.length ≤ 60 ∧ (∀ x ∈ gens, 0 ≤ x ∧ x ≤ 1000000) ∧ ∀ r ∈ rows, liveB ls r.h.1 r.h.2 = true ∧ beastErr r.b = 0 := by
  unfold loadWR at h
  split at h
  · injection h with h; cases h
  · rename_i h60
    split at h
    · injection h with h; cases h
    · rename_i ls' n' hl
      split at h
      · rename_i he
        injection h with h _
        injection h with h
        injection h with h1 h2
        subst h1
        obtain ⟨hnd, hsl, hlen⟩ := load_slots hl
        obtain ⟨_, g60, hbad, hix, hmk, hhs⟩ := loadR_some hl
        have hall := rowsLd_all _ rows _ he
        have hat := rowsLd_at _ rows _ he hnd
        have hgb : ∀ x ∈ gens, 0 ≤ x ∧ x ≤ 1000000 := fun x hx => by
          unfold anyOf at hbad
          rw [List.any_eq_false] at hbad
          have := hbad x hx
          simp [badGen] at this
          omega
        have hix' : ∀ k ∈ rows.map (fun r => r.h.1), 0 ≤ k ∧ k < (((gens.map fun g => (g, false)) : List (Int × Bool)).length : Int) := fun k hk => by
          have := badIx_no hix hk
          rw [List.length_map]; exact this
        have hml := markN_at _ _ _ hmk hix'
        rw [List.length_map] at hml
        refine ⟨⟨⟨by omega, fun x hx => ?_⟩, fun s g => ?_, fun s g b hs => ?_⟩, g60, by omega, hgb, hall⟩
        · obtain ⟨j, hj, rfl⟩ := List.mem_iff_getElem.1 hx
          have h3 := hml j (by omega)
          have h4 : ls'.getD j (0, false) = ls'[j] := by simp [List.getD, hj]
          have h5 : (((gens.map fun g => (g, false)) : List (Int × Bool)).getD j (0, false)).1 = gens[j]'(by omega) := by
            simp [List.getD, show j < gens.length by omega]
          have h6 : ls'[j].1 = gens[j]'(by omega) := by rw [← h4, h3]; exact h5
          have h7 := hgb _ (List.getElem_mem (show j < gens.length by omega))
          rw [← h6] at h7
          refine ⟨h7.1, h7.2, fun ht => ?_⟩
          have h9 : isSlot 1000000 true ls'[j] = false := by
            unfold hasSlot at hhs
            rw [List.any_eq_false] at hhs
            simpa using hhs _ hx
          unfold isSlot at h9
          rw [ht] at h9
          simp at h9
          omega
        · rw [← h2]
          constructor
          · intro hlv
            unfold liveB at hlv
            simp only [Bool.and_eq_true, decide_eq_true_eq] at hlv
            obtain ⟨⟨k1, k2⟩, k3, k4⟩ := hlv
            have h3 := hml s.toNat (by omega)
            rw [h3] at k3 k4
            have h5 : (((gens.map fun g => (g, false)) : List (Int × Bool)).getD s.toNat (0, false)).2 = false := by
              simp [List.getD, show s.toNat < gens.length by omega]
            simp only [h5, Bool.false_or, decide_eq_true_eq] at k4
            rw [Int.toNat_of_nonneg k1] at k4
            obtain ⟨r, hr, rfl⟩ := List.mem_map.1 k4
            have h6 := (hall r hr).1
            unfold liveB at h6
            simp only [Bool.and_eq_true, decide_eq_true_eq] at h6
            have h7 := h6.2.1
            rw [h3] at h7
            have : r.h.2 = g := by rw [← h7]; exact k3
            exact ⟨r.b, by rw [← this]; exact hat r hr⟩
          · rintro ⟨b, hb⟩
            by_cases hx : ∃ r ∈ rows, r.h.1 = s
            · obtain ⟨r, hr, rfl⟩ := hx
              rw [hat r hr] at hb
              injection hb with hb
              injection hb with hb1 hb2
              rw [← hb1]
              exact (hall r hr).1
            · rw [rowsLd_far _ _ _ _ fun r hr e => hx ⟨r, hr, e⟩] at hb
              cases hb
        · rw [← h2] at hs
          by_cases hx : ∃ r ∈ rows, r.h.1 = s
          · obtain ⟨r, hr, rfl⟩ := hx
            rw [hat r hr] at hs
            injection hs with hs
            injection hs with hs1 hs2
            rw [← hs2]
            exact ⟨(hall r hr).2, h8 r hr⟩
          · rw [rowsLd_far _ _ _ _ fun r hr e => hx ⟨r, hr, e⟩] at hs
            cases hs
      · injection h with h; cases h
theorem bonds_perm (m : Fam) : (bondsOf m).length = m.length := (List.mergeSort_perm m _).length_eq
theorem bondsZ_ok (ls : List (Int × Bool)) (f : BF) : ∀ (l : List (Hd × Hd)) (B B' : Fam) (n : Int), ZOk ⟨ls, f, B⟩ → bondsZ (fun h => liveB ls h.1 h.2) B l = (some B', n) → ZOk ⟨ls, f, B'⟩ ∧ B'.length = B.length + l.length ∧ ∀ b ∈ l, liveB ls b.1.1 b.1.2 = true ∧ liveB ls b.2.1 b.2.2 = true
  | [], B, B', n, hz, h => by
    unfold bondsZ at h
    injection h with h
    injection h with h
    subst h
    exact ⟨hz, by simp, by simp⟩
  | b :: l, B, B', n, hz, h => by
    rw [bondsZ] at h
    split at h
    · injection h with h; cases h
    · rename_i h1
      have h1 := Classical.not_not.1 h1
      split at h
      · injection h with h; cases h
      · rename_i h2
        split at h
        · injection h with h; cases h
        · rename_i h3
          have h3 := Classical.not_not.1 h3
          have hz2 : ZOk (adoptZ ⟨ls, f, B⟩ b.1 b.2).1 := hz.adopt b.1 b.2
          have e1 : (adoptZ ⟨ls, f, B⟩ b.1 b.2).1 = ⟨ls, f, bondsOf (adoptR B b.1 b.2).1⟩ := by
            unfold adoptZ
            rw [if_pos (show ZS.live ⟨ls, f, B⟩ b.1 = true ∧ ZS.live ⟨ls, f, B⟩ b.2 = true from h1)]
          rw [e1] at hz2
          obtain ⟨g1, g2, g3⟩ := bondsZ_ok ls f l _ _ _ hz2 h
          refine ⟨g1, ?_, fun x hx => ?_⟩
          · rw [g2, bonds_perm]
            have h4 : (adoptR B b.1 b.2).1 = mput B b.1 b.2 := by
              unfold adoptR at h3 ⊢
              split at h3
              · cases h3
              · rename_i hc; rw [if_neg hc]
            rw [h4, mput_len_new (by cases e : mget B b.1 with | none => rfl | some _ => rw [e] at h2; exact absurd rfl h2), List.length_cons]
            omega
          · rcases List.mem_cons.1 hx with rfl | hx
            · exact h1
            · exact g3 x hx
theorem ZOk.bare {ls : List (Int × Bool)} {f : BF} (h : WOk ls f) : ZOk ⟨ls, f, []⟩ := ⟨h, FamOk.nil, bonds_nil, by simp⟩
theorem live_fits {ls : List (Int × Bool)} (h : SOk ls) {s g : Int} (hl : liveB ls s g = true) : Fits s ∧ Fits g := by
  unfold liveB at hl
  simp only [Bool.and_eq_true, decide_eq_true_eq] at hl
  obtain ⟨⟨h1, h2⟩, h3, _⟩ := hl
  have h60 := h.1
  have hj : s.toNat < ls.length := by omega
  have h4 : ls.getD s.toNat (0, false) = ls[s.toNat] := by simp [List.getD, hj]
  have h5 := h.2 _ (List.getElem_mem hj)
  rw [← h4, h3] at h5
  exact ⟨⟨by omega, by omega⟩, ⟨by omega, by omega⟩⟩
/-- A STATE THAT IS LOADED -/
theorem loadZ_ok {s : StM} {z : ZS} {n : Int} (h : loadZ s = (some z, n)) (h8 : ∀ r ∈ s.rows, r.b.v.length = 8) : ZOk z ∧ StOk s ∧ s.gens.length ≤ 60 ∧ s.rows.length ≤ 60 ∧ s.bonds.length ≤ 60 ∧ n = 0 := by
  unfold loadZ at h
  split at h
  · injection h with h; cases h
  · rename_i ls f n' hw
    split at h
    · injection h with h; cases h
    · rename_i B n'' hb
      injection h with h hn
      injection h with h
      subst h
      obtain ⟨w1, w2, w3, w4, w5⟩ := loadWR_ok hw h8
      obtain ⟨b1, b2, b3⟩ := bondsZ_ok ls f _ _ _ _ (ZOk.bare w1) hb
      have hl := b1.len
      simp only at hl
      refine ⟨b1, ⟨fun x hx => ?_, fun r hr => ?_, fun b hb => ?_⟩, w2, w3, by rw [List.length_nil] at b2; omega, hn.symm⟩
      · have := w4 x hx
        exact ⟨by omega, by omega⟩
      · have := live_fits w1.so (w5 r hr).1
        exact ⟨this.1, this.2, (w5 r hr).2, h8 r hr⟩
      · have h1 := live_fits w1.so (b3 b hb).1
        have h2 := live_fits w1.so (b3 b hb).2
        exact ⟨h1.1, h1.2, h2.1, h2.2⟩
/-- THE STATE OF A ZOO IS LOADED AS THAT ZOO -/
theorem loadZ_state {z : ZS} (h : ZOk z) : loadZ ⟨gensL z.ls, z.rows, z.B⟩ = (some z, 0) := by
  have hw := h.w
  have hrl : z.rows.length ≤ 60 := allW_len hw
  have hl : loadR (gensL z.ls) (z.rows.map fun r => r.h.1) = (some z.ls, 0) := all_load hw
  have hn := (load_slots hl).1
  have he : (rowsLd z.ls (fun _ => none) z.rows).2 = 0 := rowsLd_ok _ _ _ fun r hr => by
    have := allW_ok hw hr
    exact ⟨this.2.2.1, this.2.1⟩
  have hf : (rowsLd z.ls (fun _ => none) z.rows).1 = z.f := by
    funext s
    by_cases hx : ∃ r ∈ z.rows, r.h.1 = s
    · obtain ⟨r, hr, rfl⟩ := hx
      rw [rowsLd_at _ _ _ he hn r hr]
      exact ((mem_allW hw).1 hr).symm
    · rw [rowsLd_far _ _ _ _ fun r hr e => hx ⟨r, hr, e⟩]
      cases hfs : z.f s with
      | none => rfl
      | some x => exact absurd ⟨⟨(s, x.1), x.2⟩, (mem_allW hw).2 hfs, rfl⟩ hx
  have h1 : loadWR (gensL z.ls) z.rows = (some (z.ls, z.f), 0) := by
    unfold loadWR
    rw [if_neg (by omega), hl]
    simp only
    rw [if_pos he, hf]
  have hb : ∀ k, k ≤ z.B.length → bondsZ (fun h => liveB z.ls h.1 h.2) [] (z.B.take k) = (some (z.B.take k), 0) := by
    intro k
    induction k with
    | zero => intro _; rfl
    | succ k ih =>
      intro hk
      have hlt : k < z.B.length := by omega
      have hlv := h.lv _ (List.getElem_mem hlt)
      have hno := bondTo_none h hlt
      have had := bondTo_adopt h hlt
      rw [List.take_succ_eq_append_getElem hlt, bondsZ_snoc _ _ _ _ _ (ih (by omega)), bondsZ, if_neg (fun hx => hx hlv), if_neg (by rw [hno]; simp), if_neg (by rw [had.2]; simp), bondsZ, had.1, List.take_succ_eq_append_getElem hlt]
  have h2 := hb z.B.length (Nat.le_refl _)
  rw [List.take_length] at h2
  unfold loadZ
  simp only [h1, h2]

end Go.Proofs.YtpgcghnlepnoiaaGreatDoor
