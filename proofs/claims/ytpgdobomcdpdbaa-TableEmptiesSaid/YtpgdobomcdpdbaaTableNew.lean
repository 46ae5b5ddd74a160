/-
  The contract of table.New.
-/
import Derived.Test.YtpgdobomcdpdbaaTableMem
import Derived.Test.YtpgdobomcdpdbaaPure
namespace Go.Proofs.Ytpgdobomcdpdbaa
open Go.RowKit

def TNewEnd (w : World) (K : Int) (e : Ending) (w' : World) : Prop :=
  Below w.heap.size w w' ∧ if 0 ≤ K ∧ K ≤ 255 then ∃ p, e = .returned (.tuple #[ptrV p, .int .i64 0]) ∧ (Tbl p K []).at_ w' (fun k => w.heap.size ≤ k) else e = .returned (.tuple #[.pointer none, .int .i64 1])

theorem perm_cols {α : Type} (M C I B : α) (L : List α) : (M :: C :: I :: B :: L).Perm ([I, B, M] ++ (L ++ [C])) := by
  have h1 : (C :: I :: B :: L).Perm (I :: B :: (L ++ [C])) :=
    (List.Perm.swap _ _ _).trans (((List.Perm.swap _ _ _).trans (((List.perm_append_singleton C L).symm).cons B)).cons I)
  have h2 : (M :: I :: B :: (L ++ [C])).Perm (I :: B :: M :: (L ++ [C])) := (List.Perm.swap _ _ _).trans ((List.Perm.swap _ _ _).cons I)
  exact (h1.cons M).trans h2

theorem tnew_any (K : Int) (w : World) : Calls Try.prog 41 #[.int .i64 K] w (TNewEnd w K) := by
  by_cases h0 : 0 ≤ K
  rotate_left
  · have hn : K < 0 := by omega
    have hb : decide (K < 0) = true := by simpa using hn
    have HE : Hid (¬ (0 ≤ K ∧ K ≤ 255)) := by unfold Hid; omega
    clear h0
    go_enter Try.func41, Try.ntmps41
    go_wp2_with fail
    go_ret2
    exact ⟨Below.refl _ _, by rw [if_neg HE.out]; rfl⟩
  have hb : decide (K < 0) = false := by simpa using h0
  by_cases h1 : K ≤ 255
  rotate_left
  · have hn : 255 < K := by omega
    have HE : Hid (¬ (0 ≤ K ∧ K ≤ 255)) := by unfold Hid; omega
    clear h1
    go_enter Try.func41, Try.ntmps41
    go_wp2_with fail
    go_ret2
    exact ⟨Below.refl _ _, by rw [if_neg HE.out]; rfl⟩
  have hb2 : decide (255 < K) = false := by simpa using h1
  have h1' := h1
  have hm8 : Hid (kindsI (m8 K) = (tks K).map fun k : Nat => (k : Int)) := by
    unfold Hid kindsI tks m8
    have : (K % 256).toNat = K.toNat := by rw [Int.emod_eq_of_lt h0 (by omega)]
    rw [this]; rfl
  have hmm := @run_makeMap Try.prog
  have hK8 : Hid (∀ k ∈ tks K, k < 8) := fun k hk => by have := (List.mem_filter.1 hk).1; simpa using this
  go_enter Try.func41, Try.ntmps41
  go_upto_region 4 with (fail)
  refine wp_abs (In (fun _ => False) w [Box (w.heap.size + 1) 90 #[.int .i64 K, .slice none 0 0, .map (some w.heap.size)], PtrMap w.heap.size []])
    (by have h1 := (In.nil w (fun _ => False)).newMap (Value.int .i64) ptrV goodI
        have h2 := h1.alloc 90 #[.int .i64 K, .slice none 0 0, .map (some w.heap.size)]
        simpa using h2) ?_
  generalize w.heap.size + 1 = p
  generalize hmb : w.heap.size = mb
  have HMB := Lib.hid hmb
  clear hmb
  intro w1 hI
  have HI := Lib.hid hI
  clear hI
  go_wp2_with fail
  refine (list_any K w1).mono ?_
  rintro e w2 ⟨v, rfl, ho, hb2⟩
  rw [hm8.out] at ho
  have HI2 := Lib.hid (HI.out.newInts ho hb2)
  obtain ⟨A, c, rfl, _⟩ := HI2.out.intsAt
  have hlen : Hid (((tks K).map fun k : Nat => (k : Int)).length = (tks K).length) := by unfold Hid; simp
  have hl8 : (tks K).length ≤ 8 := kinds_len _
  rw [hlen.out]
  have hl9 : ((tks K).length : Int) ≤ 8 := by omega
  clear HI ho hb2
  go_wp2_with fail
  go_loopw [20] (fun i w' => ∃ j : Nat, j ≤ (tks K).length ∧ i = .int .i64 j ∧ ∃ cb : Nat → Nat, In (fun _ => False) w ([IntsA (.slice A ((tks K).map fun k : Nat => (k : Int)).length c) ((tks K).map fun k : Nat => (k : Int)), Box p 90 #[.int .i64 K, .slice none 0 0, .map (some mb)],
    PtrMap mb (((tks K).take j).map fun k : Nat => ((k : Int), cb k))] ++ ((tks K).take j).map fun k => ColA (cb k) []) w') (fun i _ => (tks K).length - (intOf i).toNat)
  case atStart => exact ⟨0, by omega, rfl, fun _ => 0, by simpa using HI2.out⟩
  case round =>
    clear HI2
    obtain ⟨j, hj, rfl, cb, hI⟩ := hrel
    have HI := Lib.hid hI
    obtain ⟨A', c', hA, hr⟩ := hI.intsAt
    injection hA with e1 e2 e3
    subst e1; subst e3
    have HR := Lib.hid hr
    clear hI hr e2
    by_cases hlt : j < (tks K).length
    · have hji : (j : Int) < (tks K).length := by omega
      obtain ⟨b, o, rfl, hbl, hkl, hc⟩ := HR.out.at_ (k := j) (by simpa using hlt)
      rw [List.getElem_map] at hc
      have hk8 := hK8.out _ (List.getElem_mem hlt)
      have c1 : wr.cell? ⟨p, 2, none⟩ = some (.map (some mb)) := (In.swap HI.out).blk.cell 2
      have hN : Hid ((tks K).take (j + 1) = (tks K).take j ++ [(tks K)[j]]) := List.take_succ_eq_append_getElem hlt
      have hnd : Hid ((tks K)[j] ∉ (tks K).take j) := by
        unfold Hid
        have := tks_nodup K
        rw [← List.take_append_drop (j + 1) (tks K), hN.out, List.nodup_append, List.nodup_append] at this
        intro hm
        exact this.1.2.2 _ hm _ (by simp) rfl
      generalize hTS : (tks K).take (j + 1) = ts' at *
      have HTS := Lib.hid hTS
      generalize (tks K).take j = ts at *
      generalize (tks K)[j] = k at *
      clear hTS
      have hk1 : goodI (k : Int) := wf_small (by omega)
      have HI3 : Hid (In (fun _ => False) w (ColA wr.heap.size [] :: ([IntsA (.slice (some ⟨b, o, none⟩) ((tks K).map fun k : Nat => (k : Int)).length c) ((tks K).map fun k : Nat => (k : Int)), Box p 90 #[.int .i64 K, .slice none 0 0, .map (some mb)],
          PtrMap mb (ts.map fun k : Nat => ((k : Int), cb k))] ++ ts.map fun k => ColA (cb k) [])) (wr.alloc (.cells #[.slice none 0 0] 96))) :=
        HI.out.new ((Below.refl _ _).alloc (Nat.le_refl _) _) ⟨_, Blk.new _ _ _, World.ownsRow_nil _ _ _ _, by simp [Value.ownBlock], Nat.le_refl _, by simp [Value.ownBlock]⟩
      have hmap : MapAt (Value.int .i64) ptrV goodI (wr.alloc (.cells #[.slice none 0 0] 96)) mb (ts.map fun k : Nat => ((k : Int), cb k)) := (In.fourth HI3.out).mapAt
      clear HR hbl
      have hnm : mput (ts.map fun k : Nat => ((k : Int), cb k)) (k : Int) wr.heap.size = (ts.map fun k : Nat => ((k : Int), cb k)) ++ [((k : Int), wr.heap.size)] := by
        unfold mput
        rw [if_neg]
        intro ha
        obtain ⟨x, hx, e⟩ := List.any_eq_true.1 ha
        obtain ⟨y, hy, rfl⟩ := List.mem_map.1 hx
        have : y = k := by have := of_decide_eq_true e; simp only at this; omega
        exact hnd.out (this ▸ hy)
      have HNM := Lib.hid hnm
      clear hnm
      go_wp2_with (at_mapUpdate; go_loud (refine wpList_store keyI rfl _ _ _ 88 91 rfl Try.underlying88 mb _ rfl hmap (k : Int) rfl hk1 wr.heap.size rfl ?_))
      intro w5 hm5 ho5 _
      rw [HNM.out] at hm5
      have HI5 := Lib.hid ((In.fourth HI3.out).mapped hm5 ho5)
      clear hm5 ho5 hmap
      go_wp2_with fail
      go_roundw
      case rel =>
        refine ⟨j + 1, by omega, by go_num, fun i => if i = k then wr.heap.size else cb i, ?_⟩
        rw [HTS.out, hN.out]
        have e1 : (ts ++ [k]).map (fun i : Nat => ((i : Int), if i = k then wr.heap.size else cb i)) = ts.map (fun k : Nat => ((k : Int), cb k)) ++ [((k : Int), wr.heap.size)] := by
          rw [List.map_append]
          congr 1
          · apply List.map_congr_left
            intro i hi
            rw [if_neg (fun e => hnd.out (by rw [← e]; exact hi))]
          · simp
        have e2 : (ts ++ [k]).map (fun i : Nat => ColA (if i = k then wr.heap.size else cb i) []) = ts.map (fun k : Nat => ColA (cb k) []) ++ [ColA wr.heap.size []] := by
          rw [List.map_append]
          congr 1
          · apply List.map_congr_left
            intro i hi
            rw [if_neg (fun e => hnd.out (by rw [← e]; exact hi))]
          · simp
        rw [e1, e2]
        refine HI5.out.perm ?_
        exact perm_cols _ _ _ _ _
      case measure => simp [intOf]; omega
    · have hjl : j = (tks K).length := by omega
      subst hjl
      rw [List.take_length] at HI
      clear hlt hj
      have HT : Hid ((Tbl p K []).at_ wr (fun k => w.heap.size ≤ k)) := by
        have h1 := (In.drop HI.out).add0 (A := RowA 36 2 (.slice none 0 0) 0 []) ⟨World.ownsRow_nil _ _ _ _, by simp [Value.ownBlock]⟩
        refine ⟨by intro r hr; simp at hr, ⟨h0, h1'⟩, .slice none 0 0, mb, cb, ?_⟩
        exact (h1.swap).sep.cut fun k _ hk => by rcases hk.1 with h | h; exact h.elim; exact h
      have HB := Lib.hid HI.out.below0
      go_wp2_with fail
      go_ret2
      exact ⟨HB.out, by rw [if_pos ⟨h0, h1'⟩]; exact ⟨p, rfl, HT.out⟩⟩

end Go.Proofs.Ytpgdobomcdpdbaa
