/-
  Several texts in one (merged by a program of mine): FamCmp, Lift4, TableNew, TableAdd, TableIn, WorldMath, WorldSet, WorldState, WorldRowsMath, WorldLawMath, ZooMath, LoadMath, ZooLawMath.
-/
import Derived.Test.YtpgcghnlepnoiaaGreatDoorTP22
import Derived.Sort.Grow
set_option linter.unusedVariables false
set_option linter.unusedSimpArgs false
set_option linter.unusedSectionVars false
/-
  The order of handles: cmp.Compare, cmp.Or, family.Compare.
-/
namespace Go.Proofs.YtpgcghnlepnoiaaGreatDoor
open Go.RowKit

def cmpI (x y : Int) : Int := if x < y then -1 else if y < x then 1 else 0
def cmpH (a b : Hd) : Int := if cmpI a.1 b.1 = 0 then cmpI a.2 b.2 else cmpI a.1 b.1
theorem cmpI_neg (x y : Int) : cmpI x y < 0 ↔ x < y := by
  unfold cmpI
  split
  · simp_all
  · split <;> simp_all
theorem cmpI_zero (x y : Int) : cmpI x y = 0 ↔ x = y := by
  unfold cmpI
  split
  · simp; omega
  · split
    · simp; omega
    · simp; omega
theorem cmpH_neg (a b : Hd) : decide (cmpH a b < 0) = hLt a b := by
  unfold cmpH hLt
  rw [Bool.eq_iff_iff]
  simp only [decide_eq_true_eq, Bool.or_eq_true, Bool.and_eq_true]
  split
  · rename_i h
    have := (cmpI_zero _ _).1 h
    rw [cmpI_neg]; omega
  · rename_i h
    rw [cmpI_neg]
    have : a.1 ≠ b.1 := fun e => h ((cmpI_zero _ _).2 e)
    omega

theorem isNaN_any (x : Int) (w : World) : Calls Tryz.prog 106 #[.int .i64 x] w fun e w' => e = .returned (.bool false) ∧ w = w' := by
  go_enter Tryz.func106, Tryz.ntmps106
  go_wp2_with fail
  go_ret
  exact ⟨ret_bool (by simp), rfl⟩
theorem cmpInt_any (x y : Int) (w : World) : Calls Tryz.prog 69 #[.int .i64 x, .int .i64 y] w fun e w' => e = .returned (.int .i64 (cmpI x y)) ∧ w = w' := by
  have HX : Hid (x < y → cmpI x y = -1) := fun h => by unfold cmpI; rw [if_pos h]
  have HY : Hid (¬ x < y → y < x → cmpI x y = 1) := fun h h' => by unfold cmpI; rw [if_neg h, if_pos h']
  have HZ : Hid (¬ x < y → ¬ y < x → cmpI x y = 0) := fun h h' => by unfold cmpI; rw [if_neg h, if_neg h']
  go_enter Tryz.func69, Tryz.ntmps69
  go_wp2_with fail
  refine (isNaN_any x w).mono ?_
  rintro e w' ⟨rfl, rfl⟩
  go_wp2_with fail
  refine (isNaN_any y w).mono ?_
  rintro e w' ⟨rfl, rfl⟩
  by_cases h1 : x < y
  · go_wp2_with fail
    go_ret
    exact ⟨ret_int (HX.out h1).symm, rfl⟩
  · by_cases h2 : y < x
    · go_wp2_with fail
      go_ret
      exact ⟨ret_int (HY.out h1 h2).symm, rfl⟩
    · go_wp2_with fail
      go_ret
      exact ⟨ret_int (HZ.out h1 h2).symm, rfl⟩
theorem cmpOr_any (b : Nat) (x y : Int) (w : World) (h0 : w.cell? ⟨b, 0, none⟩ = some (.int .i64 x)) (h1 : w.cell? ⟨b, 1, none⟩ = some (.int .i64 y)) :
    Calls Tryz.prog 77 #[.slice (some ⟨b, 0, none⟩) 2 2] w fun e w' => e = .returned (.int .i64 (if x = 0 then y else x)) ∧ w = w' := by
  have HX : Hid (¬ x = 0 → (if x = 0 then y else x) = x) := fun h => by rw [if_neg h]
  have HY : Hid (x = 0 → (if x = 0 then y else x) = y) := fun h => by rw [if_pos h]
  generalize (if x = 0 then y else x) = r at *
  go_enter Tryz.func77, Tryz.ntmps77
  go_wp2_with fail
  go_loopw [8] (fun i w' => ∃ k : Nat, k ≤ 2 ∧ i = .int .i64 k ∧ (0 < k → x = 0) ∧ (1 < k → y = 0) ∧ w = w') (fun i _ => 2 - (intOf i).toNat)
  case atStart => exact ⟨0, by omega, rfl, fun h => by omega, fun h => by omega, rfl⟩
  case round =>
    obtain ⟨k, hk, rfl, ha, hb, rfl⟩ := hrel
    have HA := Lib.hid ha
    have HB := Lib.hid hb
    clear ha hb
    match k, hk with
    | 0, _ =>
      by_cases hx : x = 0
      · have HX0 := Lib.hid hx
        have hd : (x != 0) = false := by simp [hx]
        clear hx
        go_wp2_with fail
        go_roundw
        case rel => exact ⟨1, by omega, rfl, fun _ => HX0.out, fun h => by omega, trivial⟩
        case measure => simp [intOf]
      · have HX0 := Lib.hid hx
        have hd : (x != 0) = true := by simp [hx]
        clear hx
        go_wp2_with fail
        go_ret
        exact ⟨ret_int (HX.out HX0.out).symm, rfl⟩
    | 1, _ =>
      by_cases hx : y = 0
      · have HX0 := Lib.hid hx
        have hd : (y != 0) = false := by simp [hx]
        clear hx
        go_wp2_with fail
        go_roundw
        case rel => exact ⟨2, by omega, rfl, fun _ => HA.out (by omega), fun _ => HX0.out, trivial⟩
        case measure => simp [intOf]
      · have hd : (y != 0) = true := by simp [hx]
        clear hx
        go_wp2_with fail
        go_ret
        exact ⟨ret_int (HY.out (HA.out (by omega))).symm, rfl⟩
    | 2, _ =>
      go_wp2_with fail
      go_ret
      exact ⟨ret_int (by rw [HY.out (HA.out (by omega))]; exact (HB.out (by omega)).symm), rfl⟩

set_option maxRecDepth 100000 in
theorem compare_any (a b : Hd) (w : World) : Calls Tryz.prog 44 #[hdV a, hdV b] w fun e w' => e = .returned (.int .i64 (cmpH a b)) ∧ ∃ q os, w' = Sort.grow (w.drewN q) os := by
  obtain ⟨a1, a2⟩ := a
  obtain ⟨b1, b2⟩ := b
  have HR : Hid (cmpH (a1, a2) (b1, b2) = if cmpI a1 b1 = 0 then cmpI a2 b2 else cmpI a1 b1) := rfl
  rw [hdV_eq, hdV_eq]
  go_enter Tryz.func44, Tryz.ntmps44
  go_upto_region 1 with (fail)
  have c1 : ((w.alloc (.cells #[.int .i64 a1, .int .i64 a2] 46)).alloc (.cells #[.int .i64 b1, .int .i64 b2] 46)).cell? ⟨w.heap.size, 0, none⟩ = some (.int .i64 a1) := ((Blk.new w _ _).alloc _).cell 0
  have c2 : ((w.alloc (.cells #[.int .i64 a1, .int .i64 a2] 46)).alloc (.cells #[.int .i64 b1, .int .i64 b2] 46)).cell? ⟨w.heap.size, 1, none⟩ = some (.int .i64 a2) := ((Blk.new w _ _).alloc _).cell 1
  have c3 : ((w.alloc (.cells #[.int .i64 a1, .int .i64 a2] 46)).alloc (.cells #[.int .i64 b1, .int .i64 b2] 46)).cell? ⟨w.heap.size + 1, 0, none⟩ = some (.int .i64 b1) := by
    have := (Blk.new (w.alloc (.cells #[.int .i64 a1, .int .i64 a2] 46)) 46 #[.int .i64 b1, .int .i64 b2]).cell 0
    rwa [World.size_alloc] at this
  have c4 : ((w.alloc (.cells #[.int .i64 a1, .int .i64 a2] 46)).alloc (.cells #[.int .i64 b1, .int .i64 b2] 46)).cell? ⟨w.heap.size + 1, 1, none⟩ = some (.int .i64 b2) := by
    have := (Blk.new (w.alloc (.cells #[.int .i64 a1, .int .i64 a2] 46)) 46 #[.int .i64 b1, .int .i64 b2]).cell 1
    rwa [World.size_alloc] at this
  have HW : Hid (((w.alloc (.cells #[.int .i64 a1, .int .i64 a2] 46)).alloc (.cells #[.int .i64 b1, .int .i64 b2] 46)) = Sort.grow w #[.cells #[.int .i64 a1, .int .i64 a2] 46, .cells #[.int .i64 b1, .int .i64 b2] 46]) := by
    unfold Hid; rw [Sort.alloc_eq_grow, Sort.alloc_eq_grow, Sort.grow_grow]; rfl
  generalize ((w.alloc (.cells #[.int .i64 a1, .int .i64 a2] 46)).alloc (.cells #[.int .i64 b1, .int .i64 b2] 46)) = w2 at *
  generalize w.heap.size + 1 = bb at *
  generalize w.heap.size = ab at *
  go_still_tail 10, (by kernel_rfl)
  still_call (still_of (cmpInt_any _ _ _))
  repeat still_step
  still_call (still_of (cmpInt_any _ _ _))
  repeat still_step
  refine wpStill_nil ?_
  change wpList _ _ _ _ _ w2.drew
  generalize cmpI a1 b1 = r1 at *
  generalize cmpI a2 b2 = r2 at *
  clear c1 c2 c3 c4
  go_wp2_with fail
  refine (cmpOr_any _ r1 r2 _ (Blk.new w2.drew 3 #[.int .i64 r1, .int .i64 r2] |>.cell 0) (Blk.new w2.drew 3 #[.int .i64 r1, .int .i64 r2] |>.cell 1)).mono ?_
  rintro e w' ⟨rfl, rfl⟩
  generalize (if r1 = 0 then r2 else r1) = r at *
  go_wp2_with fail
  go_ret
  exact ⟨ret_int HR.out.symm, 1, #[.cells #[.int .i64 a1, .int .i64 a2] 46, .cells #[.int .i64 b1, .int .i64 b2] 46, .cells #[.int .i64 r1, .int .i64 r2] 3], by rw [HW.out, Sort.alloc_eq_grow, Sort.grow_grow]; rfl⟩

end Go.Proofs.YtpgcghnlepnoiaaGreatDoor

/-
  Slices of ops as arguments.
-/
namespace Go.Proofs.YtpgcghnlepnoiaaGreatDoor
open Go.RowKit Go.ChangeShapes Go.WideShapes Go.ChangeAt Go.Deep

theorem op_bytes : Tryz.prog.bytesOf 81 = 128 := by kernel_rfl
set_option maxRecDepth 100000 in
theorem open_ops_arg {H : Type} {enc : TypeId × Value → H} {W : World} {r : Reach} {b0 : Nat} {v : Value} {d : DataW H} {p : List MemPlace} {ts : List TypeId} {ds : List (DataW H)} (j : Nat)
    (hsz : (DataW.weightsEach Tryz.prog ts ds).all (· ≤ reachBytes) = true) (ht : ts[j]? = some 38) (hd : ds[j]? = some d)
    (hv : Value.okWide Tryz.prog W r b0 38 v) (h : DataW.Trod enc Tryz.prog W 0 (fun _ => true) true 38 v d p) (hlt : ∀ x ∈ p, x.block < W.heap.size) :
    ∃ A c os, v = .slice A (List.length os) c ∧ os.length ≤ 1099511627744 ∧ OpsIn W W.heap.size A os ∧ (∀ o ∈ os, o.b.v.length = 8 ∧ ∀ x ∈ OpM.list o, Fits x) ∧ os.length ≤ c ∧ c ≤ maxLen := by
  obtain ⟨A, n, c, rfl, hc, hn, hel, xs, hr, hf⟩ := open_flats 5 Tryz.underlying38 (by kernel_rfl) (by rw [op_cells]; omega) hv h hlt
  rw [op_cells] at hr
  have hl : xs.length = n * 16 := by have := hr.1; simpa using this
  have h7 := cutRows_size hl
  have hn1 : n ≤ 1099511627744 := by
    obtain ⟨elems, sp, h | h⟩ := hel
    · have := sized_slice hsz ht (h.1 ▸ hd) Tryz.underlying38
      rw [op_bytes, h.2] at this
      have hrb : reachBytes ≤ 140737488351232 := by decide
      generalize sp.length = q at *
      omega
    · omega
  have e : ((cutRows 16 xs n).map toOp).map OpM.list = cutRows 16 xs n := by
    rw [List.map_map]
    conv => rhs; rw [← List.map_id (cutRows 16 xs n)]
    exact List.map_congr_left fun r hr => (toOp_list (h7 r hr)).1
  refine ⟨A, c, (cutRows 16 xs n).map toOp, by rw [List.length_map, cutRows_len], by rw [List.length_map, cutRows_len]; omega, ?_, ?_, by rw [List.length_map, cutRows_len]; exact hn, hc⟩
  · unfold OpsIn; rw [e]; exact Reads.chunks hr (by omega)
  · intro s hs
    obtain ⟨r, hr, rfl⟩ := List.mem_map.1 hs
    refine ⟨(toOp_list (h7 r hr)).2, fun x hx => ?_⟩
    rw [(toOp_list (h7 r hr)).1] at hx
    exact hf x (cutRows_mem r hr x hx)

set_option maxRecDepth 100000 in
theorem open_handle {H : Type} {enc : TypeId × Value → H} {W : World} {r : Reach} {b0 : Nat} {v : Value} {d : DataW H} {p : List MemPlace}
    (hv : Value.okWide Tryz.prog W r b0 46 v) (h : DataW.Trod enc Tryz.prog W 0 (fun _ => true) true 46 v d p) :
    ∃ a : Hd, v = hdV a ∧ Fits a.1 ∧ Fits a.2 := by
  obtain ⟨xs, rfl, hl, hf⟩ := open_flat 4 Tryz.underlying46 (by kernel_rfl) hv h
  rw [handle_cells] at hl
  match xs, hl with
  | [a, b], _ => exact ⟨(a, b), rfl, hf a (by simp), hf b (by simp)⟩

end Go.Proofs.YtpgcghnlepnoiaaGreatDoor

/-
  The contract of table.New.
-/
namespace Go.Proofs.YtpgcghnlepnoiaaGreatDoor
open Go.RowKit

def TNewEnd (w : World) (K : Int) (e : Ending) (w' : World) : Prop :=
  Below w.heap.size w w' ∧ if 0 ≤ K ∧ K ≤ 255 then ∃ p, e = .returned (.tuple #[ptrV p, .int .i64 0]) ∧ (Tbl p K []).at_ w' (fun k => w.heap.size ≤ k) else e = .returned (.tuple #[.pointer none, .int .i64 1])

theorem perm_cols {α : Type} (M C I B : α) (L : List α) : (M :: C :: I :: B :: L).Perm ([I, B, M] ++ (L ++ [C])) := by
  have h1 : (C :: I :: B :: L).Perm (I :: B :: (L ++ [C])) :=
    (List.Perm.swap _ _ _).trans (((List.Perm.swap _ _ _).trans (((List.perm_append_singleton C L).symm).cons B)).cons I)
  have h2 : (M :: I :: B :: (L ++ [C])).Perm (I :: B :: M :: (L ++ [C])) := (List.Perm.swap _ _ _).trans ((List.Perm.swap _ _ _).cons I)
  exact (h1.cons M).trans h2

theorem tnew_any (K : Int) (w : World) : Calls Tryz.prog 112 #[.int .i64 K] w (TNewEnd w K) := by
  by_cases h0 : 0 ≤ K
  rotate_left
  · have hn : K < 0 := by omega
    have hb : decide (K < 0) = true := by simpa using hn
    have HE : Hid (¬ (0 ≤ K ∧ K ≤ 255)) := by unfold Hid; omega
    clear h0
    go_enter Tryz.func112, Tryz.ntmps112
    go_wp2_with fail
    go_ret2
    exact ⟨Below.refl _ _, by rw [if_neg HE.out]; rfl⟩
  have hb : decide (K < 0) = false := by simpa using h0
  by_cases h1 : K ≤ 255
  rotate_left
  · have hn : 255 < K := by omega
    have HE : Hid (¬ (0 ≤ K ∧ K ≤ 255)) := by unfold Hid; omega
    clear h1
    go_enter Tryz.func112, Tryz.ntmps112
    go_wp2_with fail
    go_ret2
    exact ⟨Below.refl _ _, by rw [if_neg HE.out]; rfl⟩
  have hb2 : decide (255 < K) = false := by simpa using h1
  have h1' := h1
  have hm8 : Hid (kindsI (m8 K) = (tks K).map fun k : Nat => (k : Int)) := by
    unfold Hid kindsI tks m8
    have : (K % 256).toNat = K.toNat := by rw [Int.emod_eq_of_lt h0 (by omega)]
    rw [this]; rfl
  have hmm := @run_makeMap Tryz.prog
  have hK8 : Hid (∀ k ∈ tks K, k < 8) := fun k hk => by have := (List.mem_filter.1 hk).1; simpa using this
  go_enter Tryz.func112, Tryz.ntmps112
  go_upto_region 4 with (fail)
  refine wp_abs (In (fun _ => False) w [Box (w.heap.size + 1) 181 #[.int .i64 K, .slice none 0 0, .map (some w.heap.size)], PtrMap w.heap.size []])
    (by have h1 := (In.nil w (fun _ => False)).newMap (Value.int .i64) ptrV goodI
        have h2 := h1.alloc 181 #[.int .i64 K, .slice none 0 0, .map (some w.heap.size)]
        simpa using h2) ?_
  generalize w.heap.size + 1 = p
  generalize hmb : w.heap.size = mb
  have HMB := Lib.hid hmb
  clear hmb
  intro w1 hI
  have HI := Lib.hid hI
  clear hI
  go_wp2_with fail
  refine (list_any K w1).mono ?_
  rintro e w2 ⟨v, rfl, ho, hb2⟩
  rw [hm8.out] at ho
  have HI2 := Lib.hid (HI.out.newInts ho hb2)
  obtain ⟨A, c, rfl, _⟩ := HI2.out.intsAt
  have hlen : Hid (((tks K).map fun k : Nat => (k : Int)).length = (tks K).length) := by unfold Hid; simp
  have hl8 : (tks K).length ≤ 8 := kinds_len _
  rw [hlen.out]
  have hl9 : ((tks K).length : Int) ≤ 8 := by omega
  clear HI ho hb2
  go_wp2_with fail
  go_loopw [20] (fun i w' => ∃ j : Nat, j ≤ (tks K).length ∧ i = .int .i64 j ∧ ∃ cb : Nat → Nat, In (fun _ => False) w ([IntsA (.slice A ((tks K).map fun k : Nat => (k : Int)).length c) ((tks K).map fun k : Nat => (k : Int)), Box p 181 #[.int .i64 K, .slice none 0 0, .map (some mb)],
    PtrMap mb (((tks K).take j).map fun k : Nat => ((k : Int), cb k))] ++ ((tks K).take j).map fun k => ColA (cb k) []) w') (fun i _ => (tks K).length - (intOf i).toNat)
  case atStart => exact ⟨0, by omega, rfl, fun _ => 0, by simpa using HI2.out⟩
  case round =>
    clear HI2
    obtain ⟨j, hj, rfl, cb, hI⟩ := hrel
    have HI := Lib.hid hI
    obtain ⟨A', c', hA, hr⟩ := hI.intsAt
    injection hA with e1 e2 e3
    subst e1; subst e3
    have HR := Lib.hid hr
    clear hI hr e2
    by_cases hlt : j < (tks K).length
    · have hji : (j : Int) < (tks K).length := by omega
      obtain ⟨b, o, rfl, hbl, hkl, hc⟩ := HR.out.at_ (k := j) (by simpa using hlt)
      rw [List.getElem_map] at hc
      have hk8 := hK8.out _ (List.getElem_mem hlt)
      have c1 : wr.cell? ⟨p, 2, none⟩ = some (.map (some mb)) := (In.swap HI.out).blk.cell 2
      have hN : Hid ((tks K).take (j + 1) = (tks K).take j ++ [(tks K)[j]]) := List.take_succ_eq_append_getElem hlt
      have hnd : Hid ((tks K)[j] ∉ (tks K).take j) := by
        unfold Hid
        have := tks_nodup K
        rw [← List.take_append_drop (j + 1) (tks K), hN.out, List.nodup_append, List.nodup_append] at this
        intro hm
        exact this.1.2.2 _ hm _ (by simp) rfl
      generalize hTS : (tks K).take (j + 1) = ts' at *
      have HTS := Lib.hid hTS
      generalize (tks K).take j = ts at *
      generalize (tks K)[j] = k at *
      clear hTS
      have hk1 : goodI (k : Int) := wf_small (by omega)
      have HI3 : Hid (In (fun _ => False) w (ColA wr.heap.size [] :: ([IntsA (.slice (some ⟨b, o, none⟩) ((tks K).map fun k : Nat => (k : Int)).length c) ((tks K).map fun k : Nat => (k : Int)), Box p 181 #[.int .i64 K, .slice none 0 0, .map (some mb)],
          PtrMap mb (ts.map fun k : Nat => ((k : Int), cb k))] ++ ts.map fun k => ColA (cb k) [])) (wr.alloc (.cells #[.slice none 0 0] 184))) :=
        HI.out.new ((Below.refl _ _).alloc (Nat.le_refl _) _) ⟨_, Blk.new _ _ _, World.ownsRow_nil _ _ _ _, by simp [Value.ownBlock], Nat.le_refl _, by simp [Value.ownBlock]⟩
      have hmap : MapAt (Value.int .i64) ptrV goodI (wr.alloc (.cells #[.slice none 0 0] 184)) mb (ts.map fun k : Nat => ((k : Int), cb k)) := (In.fourth HI3.out).mapAt
      clear HR hbl
      have hnm : mput (ts.map fun k : Nat => ((k : Int), cb k)) (k : Int) wr.heap.size = (ts.map fun k : Nat => ((k : Int), cb k)) ++ [((k : Int), wr.heap.size)] := by
        unfold mput
        rw [if_neg]
        intro ha
        obtain ⟨x, hx, e⟩ := List.any_eq_true.1 ha
        obtain ⟨y, hy, rfl⟩ := List.mem_map.1 hx
        have : y = k := by have := of_decide_eq_true e; simp only at this; omega
        exact hnd.out (this ▸ hy)
      have HNM := Lib.hid hnm
      clear hnm
      go_wp2_with (at_mapUpdate; go_loud (refine wpList_store keyI rfl _ _ _ 179 182 rfl Tryz.underlying179 mb _ rfl hmap (k : Int) rfl hk1 wr.heap.size rfl ?_))
      intro w5 hm5 ho5 _
      rw [HNM.out] at hm5
      have HI5 := Lib.hid ((In.fourth HI3.out).mapped hm5 ho5)
      clear hm5 ho5 hmap
      go_wp2_with fail
      go_roundw
      case rel =>
        refine ⟨j + 1, by omega, by go_num, fun i => if i = k then wr.heap.size else cb i, ?_⟩
        rw [HTS.out, hN.out]
        have e1 : (ts ++ [k]).map (fun i : Nat => ((i : Int), if i = k then wr.heap.size else cb i)) = ts.map (fun k : Nat => ((k : Int), cb k)) ++ [((k : Int), wr.heap.size)] := by
          rw [List.map_append]
          congr 1
          · apply List.map_congr_left
            intro i hi
            rw [if_neg (fun e => hnd.out (by rw [← e]; exact hi))]
          · simp
        have e2 : (ts ++ [k]).map (fun i : Nat => ColA (if i = k then wr.heap.size else cb i) []) = ts.map (fun k : Nat => ColA (cb k) []) ++ [ColA wr.heap.size []] := by
          rw [List.map_append]
          congr 1
          · apply List.map_congr_left
            intro i hi
            rw [if_neg (fun e => hnd.out (by rw [← e]; exact hi))]
          · simp
        rw [e1, e2]
        refine HI5.out.perm ?_
        exact perm_cols _ _ _ _ _
      case measure => simp [intOf]; omega
    · have hjl : j = (tks K).length := by omega
      subst hjl
      rw [List.take_length] at HI
      clear hlt hj
      have HT : Hid ((Tbl p K []).at_ wr (fun k => w.heap.size ≤ k)) := by
        have h1 := (In.drop HI.out).add0 (A := RowA 46 2 (.slice none 0 0) 0 []) ⟨World.ownsRow_nil _ _ _ _, by simp [Value.ownBlock]⟩
        refine ⟨by intro r hr; simp at hr, ⟨h0, h1'⟩, .slice none 0 0, mb, cb, ?_⟩
        exact (h1.swap).sep.cut fun k _ hk => by rcases hk.1 with h | h; exact h.elim; exact h
      have HB := Lib.hid HI.out.below0
      go_wp2_with fail
      go_ret2
      exact ⟨HB.out, by rw [if_pos ⟨h0, h1'⟩]; exact ⟨p, rfl, HT.out⟩⟩

end Go.Proofs.YtpgcghnlepnoiaaGreatDoor

/-
  The contract of Table.Add.
-/
namespace Go.Proofs.YtpgcghnlepnoiaaGreatDoor
open Go.RowKit

/-- what Add comes to: the rows, and the two results -/
def addR (K : Int) (rows : List RowM) (r : RowM) : List RowM × Int × Int :=
  if beastErr r.b ≠ 0 then (rows, 0, beastErr r.b) else if r.b.k ≠ K then (rows, 0, 4) else (rows ++ [r], (rows.length : Nat), 0)

set_option maxRecDepth 100000 in
theorem tadd_any (p : Nat) (K : Int) (rows : List RowM) (r : RowM) (F : Nat → Prop) (w : World) (h : (Tbl p K rows).at_ w F) (hr : r.b.v.length = 8) (hl : rows.length ≤ 10000) :
    Calls Tryz.prog 113 #[.pointer (some ⟨p, 0, none⟩), .agg (ints (hL r.h)), .agg (ints r.b.list)] w fun e w' => e = .returned (.tuple #[.int .i64 (addR K rows r).2.1, .int .i64 (addR K rows r).2.2]) ∧ (Tbl p K (addR K rows r).1).at_ w' (Plus F w w') ∧ Only F w w' := by
  obtain ⟨hT, hK, hv, mb, cb, hs⟩ := h
  have HI0 := Lib.hid (In.start hs)
  have HT := Lib.hid hT
  have HK := Lib.hid hK
  clear hs hT hK
  obtain ⟨⟨r1, r2⟩, b⟩ := r
  simp only at hr
  go_enter Tryz.func113, Tryz.ntmps113
  go_upto_region 1 with (fail)
  refine wp_abs (In F w (Box (w.heap.size + 1) 49 (ints b.list) :: Box w.heap.size 46 (ints (hL (r1, r2))) :: tblParts p K hv mb cb rows (colOf rows))) (by
    have h2 := (HI0.out.alloc 46 (ints (hL (r1, r2)))).alloc 49 (ints b.list)
    simpa using h2) ?_
  generalize w.heap.size + 1 = bb
  generalize w.heap.size = hb
  intro w1 hI
  have hrow := hI.blk.row_all (n := 9) (by simp [Beast.list, hr])
  have HI := Lib.hid hI
  clear hI HI0
  go_wp2_with fail
  refine (checkBeast_any b hr w1).mono ?_
  rintro e w2 ⟨rfl, hb2⟩
  have HI2 := Lib.hid (HI.out.below hb2)
  clear HI hb2 hrow
  by_cases he : beastErr b = 0
  rotate_left
  · have HR : Hid (addR K rows ⟨(r1, r2), b⟩ = (rows, 0, beastErr b)) := by unfold Hid addR; rw [if_pos he]
    have hne : (beastErr b != 0) = true := by simpa using he
    clear he
    go_wp2_with fail
    go_ret2
    rw [HR.out]
    obtain ⟨g1, g2⟩ := HI2.out.drop.drop.doneL
    exact ⟨rfl, ⟨HT.out, HK.out, hv, mb, cb, g1⟩, g2⟩
  have hne : (beastErr b != 0) = false := by rw [he]; rfl
  have HE := Lib.hid he
  clear he
  have c1 : w2.cell? ⟨bb, 0, none⟩ = some (.int .i64 b.k) := HI2.out.blk.cell 0
  have c2 : w2.cell? ⟨p, 0, none⟩ = some (.int .i64 K) := (In.third HI2.out).blk.cell 0
  rw [HE.out]
  by_cases hk : b.k = K
  rotate_left
  · have HR : Hid (addR K rows ⟨(r1, r2), b⟩ = (rows, 0, 4)) := by unfold Hid addR; rw [if_neg (by simpa using HE.out), if_pos hk]
    have hne2 : (b.k != K) = true := by simpa using hk
    clear hk
    go_wp2_with fail
    go_quiet (fail)
    go_wp2_with fail
    go_ret2
    rw [HR.out]
    have HI3 := HI2.out.below (w' := w2.drewN nq) ⟨rfl, rfl, rfl, Nat.le_refl _, fun _ _ => rfl⟩
    obtain ⟨g1, g2⟩ := HI3.drop.drop.doneL
    exact ⟨rfl, ⟨HT.out, HK.out, hv, mb, cb, g1⟩, g2⟩
  have HR : Hid (addR K rows ⟨(r1, r2), b⟩ = (rows ++ [⟨(r1, r2), b⟩], ((rows.length : Nat) : Int), 0)) := by unfold Hid addR; rw [if_neg (by simpa using HE.out), if_neg (by simpa using hk)]
  have hne2 : (b.k != K) = false := by simpa using hk
  have HKE := Lib.hid hk
  clear hk
  go_wp2_with fail
  go_quiet (fail)
  go_wp2_with fail
  have HI3 : Hid (In F w (Box bb 49 (ints b.list) :: Box hb 46 (ints (hL (r1, r2))) :: tblParts p K hv mb cb rows (colOf rows)) (w2.drewN nq)) := HI2.out.below ⟨rfl, rfl, rfl, Nat.le_refl _, fun _ _ => rfl⟩
  clear HI2 c1 c2 hne2
  generalize w2.drewN nq = w3 at *
  have hrow : row? w3 hb 0 2 = some #[.int .i64 r1, .int .i64 r2] := HI3.out.swap.blk.row_all (xs := [r1, r2]) rfl
  go_still_tail 4, (by kernel_rfl)
  repeat still_step
  change wpList _ _ _ _ _ w3.drew
  have HI4 := Lib.hid HI3.out.drew
  clear HI3 hrow
  generalize w3.drew = w4 at *
  have HI5 := Lib.hid ((In.swap HI4.out).drop.third.third)
  obtain ⟨hB4, hO4, hN4⟩ := In.sliceAt HI5.out
  go_wp2_with fail
  refine (addH_any p 1 181 #[.int .i64 K, hv, .map (some mb)] hv rows.length (rows.flatMap fun r => hC r.h) r1 r2 w4 hB4 rfl hO4 hN4 (by omega)).mono ?_
  rintro e w5 ⟨rfl, hE⟩
  obtain ⟨hv', hI6⟩ := In.added HI5.out hE
  have HI6 : Hid (In F w ([PtrMap mb ((tks K).map fun k : Nat => ((k : Int), cb k)), Box p 181 #[.int .i64 K, hv', .map (some mb)], RowA 46 2 hv' (rows.length + 1) ((rows.flatMap fun r => hC r.h) ++ [.int .i64 r1, .int .i64 r2]), Box bb 49 (ints b.list)] ++ (tks K).map fun k => ColA (cb k) (colOf rows k)) w5) := In.fourth hI6
  have c1 : w5.cell? ⟨p, 2, none⟩ = some (.map (some mb)) := (In.swap HI6.out).blk.cell 2
  clear hE hI6 HI4 HI5 hB4 hO4 hN4
  go_wp2_with (at_range; go_loud (refine wpList_rangeOver rfl _ 179 182 rfl Tryz.underlying179 mb _ rfl (In.mapAt HI6.out) ?_))
  intro w6 hr6 hb6 hs6
  have HI7 := Lib.hid (In.ranged HI6.out hr6 hb6 hs6)
  generalize w5.heap.size = ri at *
  clear hr6 hb6 hs6 c1
  go_wp2_with fail
  go_loopw [9] (fun _ w' => ∃ left, In F w ([RangeA (Value.int .i64) ptrV goodI mb ri ((tks K).map fun k : Nat => ((k : Int), cb k)) left, Box p 181 #[.int .i64 K, hv', .map (some mb)], RowA 46 2 hv' (rows.length + 1) ((rows.flatMap fun r => hC r.h) ++ [.int .i64 r1, .int .i64 r2]), Box bb 49 (ints b.list)] ++
    (tks K).map fun k : Nat => ColA (cb k) (if (k : Int) ∈ mkeys left then colOf rows k else colOf rows k ++ [b.v.getD k 0])) w') (fun _ w' => w'.rangeLeft mb ri)
  case atStart =>
    refine ⟨(tks K).map fun k : Nat => ((k : Int), cb k), ?_⟩
    have : (tks K).map (fun k : Nat => ColA (cb k) (if (k : Int) ∈ mkeys ((tks K).map fun k : Nat => ((k : Int), cb k)) then colOf rows k else colOf rows k ++ [b.v.getD k 0])) = (tks K).map fun k : Nat => ColA (cb k) (colOf rows k) := by
      apply List.map_congr_left
      intro k hk
      rw [if_pos]
      simp only [mkeys, List.map_map]
      exact List.mem_map.2 ⟨k, hk, rfl⟩
    rw [this]; exact HI7.out
  case round =>
    clear HI7 HI6
    obtain ⟨left, hI⟩ := hrel
    have HI := Lib.hid hI
    clear hI
    go_wp2_with (at_next; go_loud (refine wpList_nextOf keyI rfl _ rfl mb ri _ left rfl (In.rangeAt HI.out) ?_ ?_))
    · intro hl0
      subst hl0
      have HI8 := Lib.hid (In.third (In.third (In.drop (In.fourth (In.unranged HI.out)))))
      obtain ⟨hB, hO, hN⟩ := In.sliceAt HI8.out
      obtain ⟨A', c', rfl, _, _, _⟩ := own_form hO
      have c1 : wr.cell? ⟨p, 1, none⟩ = some (.slice A' (rows.length + 1) c') := hB.cell 1
      have hrl : ((rows.length : Nat) : Int) + 1 ≤ 1000000 := by omega
      clear hB hO hN
      go_wp2_with fail
      go_ret2
      rw [HR.out]
      obtain ⟨g1, g2⟩ := HI8.out.doneL
      refine ⟨by simp, ⟨?_, HK.out, .slice A' (rows.length + 1) c', mb, cb, ?_⟩, g2⟩
      · intro r hr'
        rcases List.mem_append.1 hr' with hr' | hr'
        · exact HT.out r hr'
        · rw [List.mem_singleton.1 hr']
          refine ⟨HKE.out, hr, fun k hk hkt => ?_⟩
          refine ((beast_ok b HE.out).2 k hk).1 ?_
          rw [HKE.out]
          cases hb : K.toNat.testBit k
          · rfl
          · exact absurd (List.mem_filter.2 ⟨by simpa using hk, hb⟩) hkt
      · have e1 : (tks K).map (fun k : Nat => ColA (cb k) (colOf (rows ++ [⟨(r1, r2), b⟩]) k)) = (tks K).map (fun k : Nat => ColA (cb k) (if (k : Int) ∈ mkeys ([] : List (Int × Nat)) then colOf rows k else colOf rows k ++ [b.v.getD k 0])) := by
          apply List.map_congr_left
          intro k _
          rw [if_neg (by simp [mkeys])]
          unfold colOf
          rw [List.map_append]; rfl
        unfold tblParts
        rw [e1, List.length_append, List.flatMap_append]
        exact g1
    · intro x v w7 hx hr7 ho7 hs7 hlt7 hen
      obtain ⟨k, hk, hke⟩ := List.mem_map.1 ((In.rangeAt HI.out).sub _ hx)
      injection hke with e1 e2
      subst e1; subst e2
      have hk8 : k < 8 := by have := (List.mem_filter.1 hk).1; simpa using this
      have hki : (k : Int) < 8 := by omega
      have HI7 : Hid (In F w ([RangeA (Value.int .i64) ptrV goodI mb ri ((tks K).map fun k : Nat => ((k : Int), cb k)) (mdel left (k : Int)), Box p 181 #[.int .i64 K, hv', .map (some mb)], RowA 46 2 hv' (rows.length + 1) ((rows.flatMap fun r => hC r.h) ++ [.int .i64 r1, .int .i64 r2]), Box bb 49 (ints b.list)] ++
        (tks K).map fun k : Nat => ColA (cb k) (if (k : Int) ∈ mkeys left then colOf rows k else colOf rows k ++ [b.v.getD k 0])) w7) := In.stepped HI.out hr7 ho7
      have HK2 := Lib.hid hk
      have HX := Lib.hid hx
      have HLT := Lib.hid hlt7
      have hget : b.v[k]? = some (b.v.getD k 0) := by simp [List.getD, List.getElem?_eq_getElem (show k < b.v.length by omega)]
      have c1 : w7.cell? ⟨bb, 1 + k, none⟩ = some (.int .i64 (b.v.getD k 0)) := by
        rw [(In.fourth HI7.out).blk.cell (1 + k), ints_get, Beast.list, Nat.add_comm, List.getElem?_cons_succ, hget]; rfl
      clear hr7 ho7 hs7 hlt7 hk hx hget
      obtain ⟨y, hy⟩ : ∃ y, b.v.getD k 0 = y := ⟨_, rfl⟩
      rw [hy] at c1
      have HY := Lib.hid hy
      clear hy
      go_wp2_with fail
      obtain ⟨F1, hA, _, hback⟩ := In.openAt HI7.out (tks_nodup K) HK2.out
      have hmem : (k : Int) ∈ mkeys left := List.mem_map.2 ⟨_, HX.out, rfl⟩
      rw [if_pos hmem] at hA
      obtain ⟨v, hB, hO, hN, hadd⟩ := ColAt.parts hA
      have HB := Lib.hid hback
      have HADD := Lib.hid hadd
      have hlc : (colOf rows k).length ≤ 100000 := by unfold colOf; rw [List.length_map]; omega
      refine (addI_any (cb k) 0 184 #[v] v (colOf rows k).length ((colOf rows k).flatMap intC) (y) w7 hB rfl hO hN hlc).mono ?_
      rintro e w8 ⟨rfl, hE⟩
      have hE2 : AddEnd w7 w8 (cb k) 184 #[v] 0 v 3 1 (colOf rows k ++ [y]).length ((colOf rows k ++ [y]).flatMap intC) := by
        rw [List.length_append, List.flatMap_append]; exact hE
      obtain ⟨hC2, hO2⟩ := HADD.out _ _ hE2
      have HI8 := Lib.hid (HB.out _ (ColA (cb k) (colOf rows k ++ [y])) hC2 hO2)
      clear hA hB hO hN hadd hback HB HADD hlc hE hE2 hC2 hO2 HI7 hmem
      go_wp2_with fail
      go_roundw
      case rel =>
        refine ⟨mdel left (k : Int), ?_⟩
        rw [← HY.out] at HI8
        have : (tks K).map (fun j : Nat => ColA (cb j) (if (j : Int) ∈ mkeys (mdel left (k : Int)) then colOf rows j else colOf rows j ++ [b.v.getD j 0])) =
            (tks K).map (fun j : Nat => if j = k then ColA (cb k) (colOf rows k ++ [b.v.getD k 0]) else ColA (cb j) (if (j : Int) ∈ mkeys left then colOf rows j else colOf rows j ++ [b.v.getD j 0])) := by
          apply List.map_congr_left
          intro j hj
          by_cases hjk : j = k
          · subst hjk
            rw [if_neg, if_pos rfl]
            intro hm
            obtain ⟨q, hq, e⟩ := List.mem_map.1 hm
            exact (mem_mdel.1 hq).2 e
          · rw [if_neg hjk]
            have : (j : Int) ∈ mkeys (mdel left (k : Int)) ↔ (j : Int) ∈ mkeys left := by
              constructor
              · intro hm; obtain ⟨q, hq, e⟩ := List.mem_map.1 hm; exact List.mem_map.2 ⟨q, (mem_mdel.1 hq).1, e⟩
              · intro hm; obtain ⟨q, hq, e⟩ := List.mem_map.1 hm; exact List.mem_map.2 ⟨q, mem_mdel.2 ⟨hq, by simp only [e]; omega⟩, e⟩
            by_cases hm : (j : Int) ∈ mkeys left
            · rw [if_pos hm, if_pos (this.2 hm)]
            · rw [if_neg hm, if_neg (fun h => hm (this.1 h))]
        rw [this]; exact HI8.out
      case measure => rw [(In.rangeAt HI8.out).count, (In.rangeAt HI.out).count]; exact HLT.out

end Go.Proofs.YtpgcghnlepnoiaaGreatDoor

/-
  The table's methods over a table among other things; vivariumref.Kinds.
-/
namespace Go.Proofs.YtpgcghnlepnoiaaGreatDoor
open Go.RowKit

section
variable {w0 w : World} {l : List Assn} {p : Nat} {K : Int} {rows : List RowM} {G : Nat → Prop}
theorem tnew_in (K : Int) (hK : 0 ≤ K ∧ K ≤ 255) (h : In G w0 l w) : Calls Tryz.prog 112 #[.int .i64 K] w fun e w' => ∃ p, e = .returned (.tuple #[.pointer (some ⟨p, 0, none⟩), .int .i64 0]) ∧ In G w0 (Tbl p K [] :: l) w' :=
  (tnew_any K w).mono fun e w' ⟨h1, h2⟩ => by
    rw [if_pos hK] at h2
    obtain ⟨p, h2, h3⟩ := h2
    exact ⟨p, h2, h.new h1 h3⟩
theorem tadd_in (h : In G w0 (Tbl p K rows :: l) w) (r1 r2 : Int) (b : Beast) (hr : b.v.length = 8) (hl : rows.length ≤ 10000) :
    Calls Tryz.prog 113 #[.pointer (some ⟨p, 0, none⟩), .agg #[.int .i64 r1, .int .i64 r2], .agg (ints b.list)] w fun e w' =>
      e = .returned (.tuple #[.int .i64 (addR K rows ⟨(r1, r2), b⟩).2.1, .int .i64 (addR K rows ⟨(r1, r2), b⟩).2.2]) ∧ In G w0 (Tbl p K (addR K rows ⟨(r1, r2), b⟩).1 :: l) w' := by
  obtain ⟨F1, hA, _, hb⟩ := h.open_
  exact (tadd_any p K rows ⟨(r1, r2), b⟩ F1 w hA hr hl).mono fun e w' ⟨h1, h2, h3⟩ => ⟨h1, hb h2 h3⟩
theorem tremove_in (h : In G w0 (Tbl p K rows :: l) w) (row : Int) (hl : rows.length ≤ 10000) :
    Calls Tryz.prog 132 #[.pointer (some ⟨p, 0, none⟩), .int .i64 row] w fun e w' =>
      e = .returned (.tuple #[.agg (ints (removeR rows row).2.1.list), .int .i64 (removeR rows row).2.2]) ∧ In G w0 (Tbl p K (removeR rows row).1 :: l) w' := by
  obtain ⟨F1, hA, _, hb⟩ := h.open_
  exact (tremove_any p K rows row F1 w hA hl).mono fun e w' ⟨h1, h2, h3⟩ => ⟨h1, hb h2 h3⟩
theorem trow_in (h : In G w0 (Tbl p K rows :: l) w) (row : Int) (hl : rows.length ≤ 10000) :
    Calls Tryz.prog 66 #[.pointer (some ⟨p, 0, none⟩), .int .i64 row] w fun e w' =>
      e = .returned (.tuple #[.agg (ints (rowR rows row).1.list), .int .i64 (rowR rows row).2]) ∧ Below w.heap.size w w' ∧ In G w0 (Tbl p K rows :: l) w' := by
  obtain ⟨F1, hA⟩ := h.head
  obtain ⟨hv, mb, cb, hS⟩ := Tbl.see hA
  exact (trow_any row w hS (by omega)).mono fun e w' ⟨h1, h2⟩ => ⟨h1, h2, h.below h2⟩
theorem thandles_in (h : In G w0 (Tbl p K rows :: l) w) (hl : rows.length ≤ 10000) :
    Calls Tryz.prog 65 #[.pointer (some ⟨p, 0, none⟩)] w fun e w' => ∃ v, e = .returned v ∧ w'.ownsRow w.heap.size 46 2 v rows.length (rows.flatMap fun r => hC r.h) ∧ Below w.heap.size w w' ∧ In G w0 (Tbl p K rows :: l) w' := by
  obtain ⟨F1, hA⟩ := h.head
  obtain ⟨hv, mb, cb, hS⟩ := Tbl.see hA
  exact (thandles_any w hS (by omega)).mono fun e w' ⟨v, h1, h2, h3⟩ => ⟨v, h1, h2, h3, h.below h3⟩
end


end Go.Proofs.YtpgcghnlepnoiaaGreatDoor

/-
  A world as plain data: of each slot its generation and its beast; the tables and places that say the same.
-/
namespace Go.Proofs.YtpgcghnlepnoiaaGreatDoor

theorem nodup_of {α : Type} {l : List α} (h : ∀ (i j : Nat) (x : α), i < j → l[i]? = some x → l[j]? = some x → False) : l.Nodup := by
  rw [List.Nodup, List.pairwise_iff_getElem]
  intro i j hi hj hij e
  exact h i j l[i] hij (List.getElem?_eq_getElem hi) (by rw [e]; exact List.getElem?_eq_getElem hj)
structure WT where
  ks : List Int
  pt : Int → Nat
  rw : Int → List RowM
  ps : List (Int × (Int × Int))
abbrev BF := Int → Option (Int × Beast)
def updB (f : BF) (s : Int) (x : Option (Int × Beast)) : BF := fun k => if k = s then x else f k
def updR {α : Type} (f : Int → α) (K : Int) (x : α) : Int → α := fun k => if k = K then x else f k
theorem updR_same {α : Type} (f : Int → α) (K : Int) (x : α) : updR f K x K = x := by unfold updR; rw [if_pos rfl]
theorem updR_other {α : Type} (f : Int → α) {K K' : Int} (x : α) (h : K' ≠ K) : updR f K x K' = f K' := by unfold updR; rw [if_neg h]
structure TRep (T : WT) (f : BF) : Prop where
  nd : T.ks.Nodup
  ne : ∀ K ∈ T.ks, T.rw K ≠ []
  at_ : ∀ K ∈ T.ks, ∀ (i : Nat) (r : RowM), (T.rw K)[i]? = some r → f r.h.1 = some (r.h.2, r.b) ∧ mget T.ps r.h.1 = some (K, (i : Int))
  all : ∀ s g b, f s = some (g, b) → ∃ K ∈ T.ks, ∃ i : Nat, (T.rw K)[i]? = some ⟨(s, g), b⟩
  ok : ∀ s g b, f s = some (g, b) → beastErr b = 0 ∧ b.v.length = 8 ∧ 0 ≤ s ∧ s < 60
theorem TRep.nil : TRep ⟨[], fun _ => 0, fun _ => [], []⟩ (fun _ => none) :=
  ⟨List.nodup_nil, by simp, by simp, by simp, by simp⟩

section
variable {T : WT} {f : BF} {s g K : Int} {b : Beast}
theorem TRep.lay_old (h : TRep T f) (hf : f s = none) (hb : beastErr b = 0 ∧ b.v.length = 8 ∧ 0 ≤ s ∧ s < 60) (hK : K ∈ T.ks) :
    TRep ⟨T.ks, T.pt, updR T.rw K (T.rw K ++ [⟨(s, g), b⟩]), mput T.ps s (K, ((T.rw K).length : Int))⟩ (updB f s (some (g, b))) := by
  refine ⟨h.nd, fun K' hK' => ?_, fun K' hK' i r hr => ?_, fun s' g' b' hs => ?_, fun s' g' b' hs => ?_⟩
  · simp only [updR]; split
    · simp
    · exact h.ne K' hK'
  · simp only at hr hK' ⊢
    have old : ∀ K' ∈ T.ks, (T.rw K')[i]? = some r → updB f s (some (g, b)) r.h.1 = some (r.h.2, r.b) ∧ mget (mput T.ps s (K, ((T.rw K).length : Int))) r.h.1 = some (K', (i : Int)) := by
      intro K' hK' hr
      obtain ⟨h1, h2⟩ := h.at_ K' hK' i r hr
      have hne : r.h.1 ≠ s := fun e => by rw [e, hf] at h1; cases h1
      unfold updB
      rw [if_neg hne, mget_mput, if_neg hne]
      exact ⟨h1, h2⟩
    by_cases e : K' = K
    · subst e
      rw [updR_same] at hr
      by_cases hi : i < (T.rw K').length
      · rw [List.getElem?_append_left hi] at hr
        exact old K' hK' hr
      · rw [List.getElem?_append_right (by omega)] at hr
        have hi0 : i = (T.rw K').length := by
          have := (List.getElem?_eq_some_iff.1 hr).1
          simp at this; omega
        rw [hi0, Nat.sub_self] at hr
        simp at hr
        subst hr
        unfold updB
        simp only [if_true]
        rw [mget_mput, if_pos rfl, hi0]
        exact ⟨trivial, rfl⟩
    · rw [updR_other _ _ e] at hr
      exact old K' hK' hr
  · unfold updB at hs
    split at hs
    · rename_i e
      cases hs; subst e
      refine ⟨K, hK, (T.rw K).length, ?_⟩
      simp only [updR_same]
      rw [List.getElem?_append_right (Nat.le_refl _), Nat.sub_self]; rfl
    · obtain ⟨K', hK', i, hi⟩ := h.all s' g' b' hs
      refine ⟨K', hK', i, ?_⟩
      simp only
      by_cases e : K' = K
      · subst e
        rw [updR_same, List.getElem?_append_left (List.getElem?_eq_some_iff.1 hi).1]; exact hi
      · rw [updR_other _ _ e]; exact hi
  · unfold updB at hs
    split at hs
    · rename_i e; cases hs; subst e; exact hb
    · exact h.ok s' g' b' hs
theorem TRep.lay_new (h : TRep T f) (hf : f s = none) (hb : beastErr b = 0 ∧ b.v.length = 8 ∧ 0 ≤ s ∧ s < 60) (hK : K ∉ T.ks) (p : Nat) :
    TRep ⟨T.ks ++ [K], updR T.pt K p, updR T.rw K [⟨(s, g), b⟩], mput T.ps s (K, 0)⟩ (updB f s (some (g, b))) := by
  refine ⟨?_, fun K' hK' => ?_, fun K' hK' i r hr => ?_, fun s' g' b' hs => ?_, fun s' g' b' hs => ?_⟩
  · simp only
    rw [List.nodup_append]
    exact ⟨h.nd, by simp, fun a ha b hb e => hK (by rw [List.mem_singleton] at hb; rw [← hb, ← e]; exact ha)⟩
  · simp only [updR] at hK' ⊢; split
    · simp
    · rename_i e
      rw [List.mem_append, List.mem_singleton] at hK'
      rcases hK' with hK' | hK'
      · exact h.ne K' hK'
      · exact absurd hK' e
  · simp only at hr hK' ⊢
    by_cases e : K' = K
    · subst e
      rw [updR_same] at hr
      cases i with
      | succ i => simp at hr
      | zero =>
        simp at hr
        subst hr
        unfold updB
        simp only [if_true]
        rw [mget_mput, if_pos rfl]
        exact ⟨trivial, rfl⟩
    · rw [updR_other _ _ e] at hr
      rw [List.mem_append, List.mem_singleton] at hK'
      rcases hK' with hK' | hK'
      · obtain ⟨h1, h2⟩ := h.at_ K' hK' i r hr
        have hne : r.h.1 ≠ s := fun e => by rw [e, hf] at h1; cases h1
        unfold updB
        rw [if_neg hne, mget_mput, if_neg hne]
        exact ⟨h1, h2⟩
      · exact absurd hK' e
  · unfold updB at hs
    split at hs
    · rename_i e
      cases hs; subst e
      exact ⟨K, by simp, 0, by simp only [updR_same]; rfl⟩
    · obtain ⟨K', hK', i, hi⟩ := h.all s' g' b' hs
      refine ⟨K', by simp [hK'], i, ?_⟩
      simp only
      rw [updR_other _ _ (fun e => hK (by rw [← e]; exact hK'))]; exact hi
  · unfold updB at hs
    split at hs
    · rename_i e; cases hs; subst e; exact hb
    · exact h.ok s' g' b' hs

theorem cut_get {α : Type} (d : α) (l : List α) (i j : Nat) (hi : i < l.length) (hj : j < l.length - 1) : (cutAt d l i)[j]? = if j = i then l[l.length - 1]? else l[j]? := by
  unfold cutAt
  rw [List.getElem?_take, if_pos hj, List.getElem?_set]
  by_cases e : i = j
  · rw [if_pos e, if_pos (by omega), if_pos e.symm, List.getD_eq_getElem?_getD, List.getElem?_eq_getElem (show l.length - 1 < l.length by omega)]; rfl
  · rw [if_neg e, if_neg (fun h => e h.symm)]
/-- the place of who has moved -/
def movePs (ps : List (Int × (Int × Int))) (rows' : List RowM) (K : Int) (i : Nat) : List (Int × (Int × Int)) := if i < rows'.length then mput ps (rows'.getD i zeroRow).h.1 (K, (i : Int)) else ps
theorem TRep.lift_rep (h : TRep T f) (hK : K ∈ T.ks) {i : Nat} (hi : (T.rw K)[i]? = some ⟨(s, g), b⟩) :
    TRep ⟨if (cutAt zeroRow (T.rw K) i).length = 0 then T.ks.filter (fun k => !decide (k = K)) else T.ks, T.pt, updR T.rw K (cutAt zeroRow (T.rw K) i), mdel (movePs T.ps (cutAt zeroRow (T.rw K) i) K i) s⟩ (updB f s none) := by
  have hil := (List.getElem?_eq_some_iff.1 hi).1
  have hcl := cutAt_len zeroRow (T.rw K) i
  obtain ⟨hfs, hps⟩ := h.at_ K hK i _ hi
  simp only at hfs hps
  have hmem : ∀ K', K' ∈ (if (cutAt zeroRow (T.rw K) i).length = 0 then T.ks.filter (fun k => !decide (k = K)) else T.ks) → K' ∈ T.ks ∧ (K' = K → 0 < (cutAt zeroRow (T.rw K) i).length) := by
    intro K' hK'
    split at hK'
    · rw [List.mem_filter] at hK'
      exact ⟨hK'.1, fun e => by simp [e] at hK'⟩
    · rename_i hne
      exact ⟨hK', fun _ => by omega⟩
  have hmem2 : ∀ K', K' ∈ T.ks → (K' = K → 0 < (cutAt zeroRow (T.rw K) i).length) → K' ∈ (if (cutAt zeroRow (T.rw K) i).length = 0 then T.ks.filter (fun k => !decide (k = K)) else T.ks) := by
    intro K' hK' h0
    split
    · rename_i h00
      rw [List.mem_filter]
      refine ⟨hK', ?_⟩
      have : K' ≠ K := fun e => by have := h0 e; omega
      simpa using this
    · exact hK'
  -- the row at j of another place, and where it is now
  have hplace : ∀ K' ∈ T.ks, ∀ (j : Nat) r, (T.rw K')[j]? = some r → ¬ (K' = K ∧ j = i) → ∀ (j' : Int), (K' = K ∧ j = (T.rw K).length - 1 ∧ i < (T.rw K).length - 1 → j' = i) → (¬ (K' = K ∧ j = (T.rw K).length - 1 ∧ i < (T.rw K).length - 1) → j' = j) →
      updB f s none r.h.1 = some (r.h.2, r.b) ∧ mget (mdel (movePs T.ps (cutAt zeroRow (T.rw K) i) K i) s) r.h.1 = some (K', j') := by
    intro K' hK' j r hr hne j' hj1 hj2
    obtain ⟨h1, h2⟩ := h.at_ K' hK' j r hr
    have hns : r.h.1 ≠ s := fun e => by
      rw [e, hps] at h2
      injection h2 with h2
      injection h2 with h2 h3
      exact hne ⟨h2.symm, by omega⟩
    unfold updB
    rw [if_neg hns, mget_mdel, if_neg hns]
    refine ⟨h1, ?_⟩
    unfold movePs
    rw [hcl]
    by_cases hin : i < (T.rw K).length - 1
    · rw [if_pos hin, mget_mput]
      have hget : (cutAt zeroRow (T.rw K) i).getD i zeroRow = (T.rw K)[(T.rw K).length - 1] := by
        rw [List.getD_eq_getElem?_getD, cut_get _ _ _ _ hil hin, if_pos rfl, List.getElem?_eq_getElem (by omega)]; rfl
      rw [hget]
      obtain ⟨_, h4⟩ := h.at_ K hK ((T.rw K).length - 1) _ (List.getElem?_eq_getElem (by omega))
      by_cases e : r.h.1 = ((T.rw K)[(T.rw K).length - 1]'(by omega)).h.1
      · rw [if_pos e]
        rw [← e, h2] at h4
        injection h4 with h4
        injection h4 with h4 h5
        rw [hj1 ⟨h4, by omega, hin⟩, h4]
      · rw [if_neg e, h2]
        have : ¬ (K' = K ∧ j = (T.rw K).length - 1 ∧ i < (T.rw K).length - 1) := by
          rintro ⟨rfl, rfl, _⟩
          rw [List.getElem?_eq_getElem (by omega)] at hr
          injection hr with hr
          exact e (by rw [hr])
        rw [hj2 this]
    · rw [if_neg hin, h2, hj2 (fun h => hin h.2.2)]
  refine ⟨?_, fun K' hK' => ?_, fun K' hK' j r hr => ?_, fun s' g' b' hs => ?_, fun s' g' b' hs => ?_⟩
  · simp only
    split
    · exact h.nd.sublist List.filter_sublist
    · exact h.nd
  · simp only at hK' ⊢
    obtain ⟨h1, h2⟩ := hmem K' hK'
    by_cases e : K' = K
    · rw [e, updR_same]
      intro h0
      have := h2 e
      rw [h0] at this
      simp at this
    · rw [updR_other _ _ e]; exact h.ne K' h1
  · simp only at hK' hr ⊢
    obtain ⟨h1, _⟩ := hmem K' hK'
    by_cases e : K' = K
    · subst e
      rw [updR_same] at hr
      have hjl : j < (T.rw K').length - 1 := by have := (List.getElem?_eq_some_iff.1 hr).1; omega
      rw [cut_get _ _ _ _ hil hjl] at hr
      by_cases ej : j = i
      · rw [if_pos ej] at hr
        exact hplace K' h1 _ r hr (by rintro ⟨_, h⟩; omega) j (fun _ => by omega) (fun h => absurd ⟨rfl, rfl, by omega⟩ h)
      · rw [if_neg ej] at hr
        exact hplace K' h1 j r hr (fun h => ej h.2) j (fun h => by omega) (fun _ => rfl)
    · rw [updR_other _ _ e] at hr
      exact hplace K' h1 j r hr (fun h => e h.1) j (fun h => absurd h.1 e) (fun _ => rfl)
  · unfold updB at hs
    split at hs
    · cases hs
    · rename_i hne
      obtain ⟨K', hK', j, hj⟩ := h.all s' g' b' hs
      by_cases e : K' = K
      · subst e
        have hjl := (List.getElem?_eq_some_iff.1 hj).1
        have hji : j ≠ i := fun e => by
          rw [e, hi] at hj
          injection hj with hj
          injection hj with hj _
          injection hj with hj _
          exact hne hj.symm
        have h0 : 0 < (cutAt zeroRow (T.rw K') i).length := by omega
        refine ⟨K', hmem2 K' hK' (fun _ => h0), if j = (T.rw K').length - 1 then i else j, ?_⟩
        simp only [updR_same]
        split
        · rename_i ej
          rw [cut_get _ _ _ _ hil (by omega), if_pos rfl, ← ej]; exact hj
        · rw [cut_get _ _ _ _ hil (by omega), if_neg hji]; exact hj
      · refine ⟨K', hmem2 K' hK' (fun h => absurd h e), j, ?_⟩
        simp only
        rw [updR_other _ _ e]; exact hj
  · unfold updB at hs
    split at hs
    · cases hs
    · exact h.ok s' g' b' hs
end

end Go.Proofs.YtpgcghnlepnoiaaGreatDoor

/-
  The contract of Table.Set, where what is set is there.
-/
namespace Go.Proofs.YtpgcghnlepnoiaaGreatDoor
open Go.RowKit

theorem own_setCell {w : World} {B : Nat} {e : TypeId} {size n c g i : Nat} {xs : List Value} (u : Value) (h : w.ownsRow B e size (.slice (some ⟨g, 0, none⟩) n c) n xs) (hi : i < n * size) : (w.setCell ⟨g, i, none⟩ u).ownsRow B e size (.slice (some ⟨g, 0, none⟩) n c) n (xs.set i u) := by
  obtain ⟨h1, h2⟩ := h
  refine ⟨by rw [List.length_set]; exact h1, ?_⟩
  rcases h2 with ⟨e1, h0⟩ | ⟨g', cap, cur, e1, hb, hg, h3, h4, h5, h6⟩
  · cases e1
  · injection e1 with e1 e2 e3
    injection e1 with e1
    injection e1 with e1
    subst e1; subst e3
    refine Or.inr ⟨g, c, cur.setIfInBounds i u, rfl, hb, ?_, h3, h4, ?_, ?_⟩
    · simp [World.setCell, Array.getElem?_modify, hg]
    · simp; exact h5
    · rw [Array.toList_setIfInBounds, ← h6, List.take_set]
theorem own_cell {w : World} {B : Nat} {e : TypeId} {size n c g i : Nat} {xs : List Value} (h : w.ownsRow B e size (.slice (some ⟨g, 0, none⟩) n c) n xs) {u : Value} (hi : xs[i]? = some u) : w.cell? ⟨g, i, none⟩ = some u ∧ w.frozen? ⟨g, i, none⟩ = false := by
  obtain ⟨h1, h2⟩ := h
  rcases h2 with ⟨e1, h0⟩ | ⟨g', cap, cur, e1, hb, hg, h3, h4, h5, h6⟩
  · cases e1
  · injection e1 with e1 e2 e3
    injection e1 with e1
    injection e1 with e1
    subst e1; subst e3
    refine ⟨?_, by simp [World.frozen?, hg]⟩
    rw [cell_of_row w g i cur e (0, 0) hg, ← hi, ← h6, List.getElem?_take, if_pos]
    · simp
    · have := (List.getElem?_eq_some_iff.1 hi).1; omega
def setB (r : RowM) (k : Nat) (n : Int) : RowM := ⟨r.h, ⟨r.b.k, r.b.v.set k n⟩⟩
theorem colOf_set {K : Int} {rows : List RowM} (hT : TRows K rows) (i : Nat) (hi : i < rows.length) (k : Nat) (hk : k < 8) (n : Int) (j : Nat) : colOf (rows.set i (setB rows[i] k n)) j = if j = k then (colOf rows j).set i n else colOf rows j := by
  unfold colOf
  rw [List.map_set]
  have hl := (hT _ (List.getElem_mem hi)).2.1
  have e : ((setB rows[i] k n).b.v.getD j 0) = if j = k then n else rows[i].b.v.getD j 0 := by
    unfold setB
    simp only
    rw [List.getD_eq_getElem?_getD, List.getD_eq_getElem?_getD, List.getElem?_set]
    by_cases h : k = j
    · rw [if_pos h, if_pos (by omega), if_pos h.symm]; rfl
    · rw [if_neg h, if_neg (fun h' => h h'.symm)]
  rw [e]
  split
  · rfl
  · apply List.ext_getElem?
    intro q
    rw [List.getElem?_set]
    split
    · rename_i hq
      subst hq
      rw [if_pos (by simpa using hi), List.getElem?_map, List.getElem?_eq_getElem hi]; rfl
    · rfl
set_option maxHeartbeats 1000000 in
set_option maxRecDepth 100000 in
theorem tset_in {G : Nat → Prop} {w0 w : World} {l : List Assn} {p : Nat} {K : Int} {rows : List RowM} (h : In G w0 (Tbl p K rows :: l) w) (i : Nat) (hi : i < rows.length) (hl : rows.length ≤ 10000) (k : Nat) (hk : k ∈ tks K) (hk8 : k < 8) (n : Int) (hn : -1000000000 ≤ n ∧ n ≤ 1000000000) :
    Calls Tryz.prog 97 #[.pointer (some ⟨p, 0, none⟩), .int .i64 (i : Int), .int .i64 (k : Int), .int .i64 n] w fun e w' => e = .returned (.int .i64 0) ∧ In G w0 (Tbl p K (rows.set i (setB rows[i] k n)) :: l) w' := by
  obtain ⟨hT, hK, hv, mb, cb, hI⟩ := h.openTbl
  obtain ⟨F0, hA0⟩ := h.head
  have HI := Lib.hid hI
  have hSee : TblSee w p K rows hv mb cb := by
    have hI2 := hI
    exact ⟨hT, hK, In.blk hI2, (In.sliceAt hI2).2.1, (In.third hI2).mapAt, fun k hk => by
      have h1 : In G w0 ((([Box p 181 #[.int .i64 K, hv, .map (some mb)], RowA 46 2 hv rows.length (rows.flatMap fun r => hC r.h), PtrMap mb ((tks K).map fun k : Nat => ((k : Int), cb k))] ++ l)) ++ (tks K).map fun k => ColA (cb k) (colOf rows k)) w := hI.perm (by
        unfold tblParts
        rw [List.append_assoc, List.append_assoc]
        exact List.Perm.append_left _ List.perm_append_comm)
      exact h1.readAt (tks_nodup K) hk⟩
  have HT2 : Hid (TRows K (rows.set i (setB rows[i] k n))) := fun r hr => by
    rcases List.mem_or_eq_of_mem_set hr with hr | rfl
    · exact hT r hr
    · obtain ⟨g1, g2, g3⟩ := hT _ (List.getElem_mem hi)
      refine ⟨g1, by unfold setB; simp [g2], fun j hj hjt => ?_⟩
      have hne : k ≠ j := fun e => hjt (by rw [← e]; exact hk)
      unfold setB
      simp only
      rw [List.getD_eq_getElem?_getD, List.getElem?_set_ne hne, ← List.getD_eq_getElem?_getD]
      exact g3 j hj hjt
  have HCS := Lib.hid (colOf_set hT i hi k hk8 n)
  have hfl : (rows.set i (setB rows[i] k n)).flatMap (fun r => hC r.h) = rows.flatMap fun r => hC r.h := by
    have : (rows.set i (setB rows[i] k n)).map (fun r => r.h) = rows.map fun r => r.h := by
      rw [List.map_set]
      apply List.ext_getElem?
      intro q
      rw [List.getElem?_set]
      split
      · rename_i hq
        subst hq
        rw [if_pos (by simpa using hi), List.getElem?_map, List.getElem?_eq_getElem hi]; rfl
      · rfl
    have h2 := congrArg (fun l : List (Int × Int) => l.flatMap hC) this
    simp only [List.flatMap_map] at h2
    exact h2
  have HFL := Lib.hid hfl
  have hlen : (rows.set i (setB rows[i] k n)).length = rows.length := List.length_set
  have HLEN := Lib.hid hlen
  have HK := Lib.hid hK
  have hir : isRowB rows.length (i : Int) = true := by unfold isRowB; simp; omega
  have hof : ofR K (k : Int) = (some k, 0) := by
    unfold ofR
    rw [if_pos (by omega), Int.toNat_natCast, if_pos hk]
  have HROW := Lib.hid (isRow_any (i : Int) w hSee (by omega))
  have HOF := Lib.hid (tof_any (k : Int) w hSee)
  rw [hir] at HROW
  rw [hof] at HOF
  obtain ⟨F1, hCol⟩ := hSee.c k hk
  obtain ⟨A3, c3, f1, f2, f3, f4, f5, f6, f7, f8⟩ := hCol.slice
  have hcl : (colOf rows k).length = rows.length := by unfold colOf; rw [List.length_map]
  have hA3 : ∃ g, A3 = some ⟨g, 0, none⟩ := by
    obtain ⟨A, c, e, _, _, hA⟩ := own_form f5
    injection e with e
    subst e
    exact hA (by omega)
  obtain ⟨g, rfl⟩ := hA3
  have hci : ((colOf rows k).flatMap intC)[i]? = some (.int .i64 ((colOf rows k)[i]'(by omega))) := by
    have := flat_get (f := intC) (size := 1) (fun _ => rfl) (colOf rows k) i 0 (by omega) (by omega)
    rw [Nat.mul_one, Nat.add_zero] at this
    rw [this]; rfl
  obtain ⟨q0, q2⟩ := own_cell f5 hci
  obtain ⟨x0, q1⟩ : ∃ x : Int, w.cell? ⟨g, i, none⟩ = some (.int .i64 x) := ⟨_, q0⟩
  have HEND : Hid (In G w0 (Tbl p K (rows.set i (setB rows[i] k n)) :: l) (w.setCell ⟨g, i, none⟩ (.int .i64 n))) := by
    refine In.shutTbl (hv := hv) (mb := mb) (cb := cb) HT2.out hK ?_
    have h1 : In G w0 ((([Box p 181 #[.int .i64 K, hv, .map (some mb)], RowA 46 2 hv rows.length (rows.flatMap fun r => hC r.h), PtrMap mb ((tks K).map fun k : Nat => ((k : Int), cb k))] ++ l)) ++ (tks K).map fun k => ColA (cb k) (colOf rows k)) w := hI.perm (by
      unfold tblParts
      rw [List.append_assoc, List.append_assoc]
      exact List.Perm.append_left _ List.perm_append_comm)
    obtain ⟨F2, hc2, _, hback⟩ := h1.openAt (tks_nodup K) hk
    obtain ⟨v, p1, p2, p3, p4⟩ := ColAt.parts hc2
    have hv3 : v = .slice (some ⟨g, 0, none⟩) (colOf rows k).length c3 := by
      have := p1.cell 0
      rw [f1] at this
      simpa using this.symm
    subst hv3
    have hgp : g ≠ cb k := fun e => p3 (by rw [e]; rfl)
    have hadd : AddEnd w (w.setCell ⟨g, i, none⟩ (.int .i64 n)) (cb k) 184 #[.slice (some ⟨g, 0, none⟩) (colOf rows k).length c3] 0 (.slice (some ⟨g, 0, none⟩) (colOf rows k).length c3) 3 1 ((colOf rows k).set i n).length (((colOf rows k).set i n).flatMap intC) := by
      refine ⟨.slice (some ⟨g, 0, none⟩) (colOf rows k).length c3, ?_, ?_, p3, fun q hq => Or.inl hq, ?_⟩
      · exact (p1.far (Ne.symm hgp) i _)
      · have h2 := own_setCell (.int .i64 n) p2 (i := i) (by omega)
        have h3 : ((colOf rows k).flatMap intC).set i (.int .i64 n) = ((colOf rows k).set i n).flatMap intC := by
          have := flat_set (f := intC) (size := 1) (fun _ => rfl) (colOf rows k) i 0 n (.int .i64 n) (by omega) (by omega) rfl
          rwa [Nat.mul_one, Nat.add_zero] at this
        rw [h3] at h2
        rw [List.length_set]
        exact h2
      · exact (Only.refl.setCell (Or.inl (Or.inr rfl)) i _)
    obtain ⟨r1, r2⟩ := p4 _ _ hadd
    have h5 := hback _ (ColA (cb k) ((colOf rows k).set i n)) r1 r2
    have h6 : ((tks K).map fun j => if j = k then ColA (cb k) ((colOf rows k).set i n) else ColA (cb j) (colOf rows j)) = (tks K).map fun j => ColA (cb j) (colOf (rows.set i (setB rows[i] k n)) j) := by
      apply List.map_congr_left
      intro j _
      rw [HCS.out]
      by_cases e : j = k
      · rw [if_pos e, if_pos e, e]
      · rw [if_neg e, if_neg e]
    rw [h6] at h5
    unfold tblParts
    rw [hlen, hfl]
    refine h5.perm ?_
    rw [List.append_assoc, List.append_assoc]
    exact List.Perm.append_left _ List.perm_append_comm
  have hd1 : decide (n < -1000000000) = false := decide_eq_false (by omega)
  have hd2 : decide (1000000000 < n) = false := decide_eq_false (by omega)
  have hil : (i : Int) < (colOf rows k).length := by omega
  clear h hI HI hSee hA0 hT hK hfl hlen hir hof q0 hCol f2 f3 f4 f5 f6 f7 f8 HT2 HCS HFL HLEN HK hcl hci
  go_enter Tryz.func97, Tryz.ntmps97
  go_wp2_with fail
  refine HROW.out.mono ?_
  rintro e w1 ⟨rfl, rfl⟩
  go_wp2_with fail
  refine HOF.out.mono ?_
  rintro e w1 ⟨rfl, rfl⟩
  simp only [colPtr]
  go_wp2_with fail
  go_ret
  exact ⟨rfl, HEND.out⟩

end Go.Proofs.YtpgcghnlepnoiaaGreatDoor

/-
  What a world's methods do, as plain data.
-/
namespace Go.Proofs.YtpgcghnlepnoiaaGreatDoor

/-! ### beasts -/
theorem beast_iff (b : Beast) : beastErr b = 0 ↔ (0 ≤ b.k ∧ b.k ≤ 255) ∧ ∀ j, j < 8 → (b.k.toNat.testBit j = false → b.v.getD j 0 = 0) ∧ -1000000000 ≤ b.v.getD j 0 ∧ b.v.getD j 0 ≤ 1000000000 := by
  refine ⟨beast_ok b, fun ⟨h1, h2⟩ => beastErr_none b (by unfold isSetB; simp [h1.1, h1.2]) fun j hj => ?_⟩
  obtain ⟨g1, g2, g3⟩ := h2 j hj
  unfold valErr
  rw [if_neg (fun h => h.2 (g1 h.1)), if_neg (by omega)]
def putB (b : Beast) (k : Nat) (n : Int) : Beast := ⟨((b.k.toNat ||| 2 ^ k : Nat) : Int), b.v.set k n⟩
def dropB (b : Beast) (k : Nat) : Beast := ⟨((b.k.toNat - 2 ^ k : Nat) : Int), b.v.set k 0⟩
theorem or_bits : ∀ (m k j : Nat), m < 256 → k < 8 → j < 8 → (m ||| 2 ^ k).testBit j = (m.testBit j || decide (k = j)) ∧ (m ||| 2 ^ k) < 256 := by
  have h : ∀ (m : Fin 256) (k j : Fin 8), (m.val ||| 2 ^ k.val).testBit j.val = (m.val.testBit j.val || decide (k.val = j.val)) ∧ (m.val ||| 2 ^ k.val) < 256 := by decide +kernel
  exact fun m k j hm hk hj => h ⟨m, hm⟩ ⟨k, hk⟩ ⟨j, hj⟩
theorem sub_bits : ∀ (m k j : Nat), m < 256 → k < 8 → j < 8 → m.testBit k = true → (m - 2 ^ k).testBit j = (m.testBit j && !decide (k = j)) := by
  have h : ∀ (m : Fin 256) (k j : Fin 8), m.val.testBit k.val = true → (m.val - 2 ^ k.val).testBit j.val = (m.val.testBit j.val && !decide (k.val = j.val)) := by decide +kernel
  exact fun m k j hm hk hj => h ⟨m, hm⟩ ⟨k, hk⟩ ⟨j, hj⟩
theorem or_same : ∀ (m k : Nat), m < 256 → k < 8 → m.testBit k = true → (m ||| 2 ^ k) = m := by
  have h : ∀ (m : Fin 256) (k : Fin 8), m.val.testBit k.val = true → (m.val ||| 2 ^ k.val) = m.val := by decide +kernel
  exact fun m k hm hk => h ⟨m, hm⟩ ⟨k, hk⟩
theorem or_new : ∀ (m k : Nat), m < 256 → k < 8 → m.testBit k = false → (m ||| 2 ^ k) = m + 2 ^ k := by
  have h : ∀ (m : Fin 256) (k : Fin 8), m.val.testBit k.val = false → (m.val ||| 2 ^ k.val) = m.val + 2 ^ k.val := by decide +kernel
  exact fun m k hm hk => h ⟨m, hm⟩ ⟨k, hk⟩
theorem getD_set8 {v : List Int} {k j : Nat} (hv : v.length = 8) (hk : k < 8) (n : Int) : (v.set k n).getD j 0 = if j = k then n else v.getD j 0 := by
  rw [List.getD_eq_getElem?_getD, List.getD_eq_getElem?_getD, List.getElem?_set]
  by_cases e : k = j
  · rw [if_pos e, if_pos (by omega), if_pos e.symm]; rfl
  · rw [if_neg e, if_neg (fun h => e h.symm)]
theorem put_err {b : Beast} (hb : beastErr b = 0) (hv : b.v.length = 8) {k : Nat} (hk : k < 8) {n : Int} (hn : -1000000000 ≤ n ∧ n ≤ 1000000000) : beastErr (putB b k n) = 0 ∧ (putB b k n).v.length = 8 := by
  obtain ⟨h1, h2⟩ := (beast_iff b).1 hb
  refine ⟨(beast_iff _).2 ⟨?_, fun j hj => ?_⟩, by unfold putB; rw [List.length_set, hv]⟩
  · have := (or_bits b.k.toNat k 0 (by omega) hk (by omega)).2
    unfold putB; simp only; omega
  · unfold putB
    simp only [Int.toNat_natCast]
    rw [(or_bits b.k.toNat k j (by omega) hk hj).1, getD_set8 hv hk]
    by_cases e : j = k
    · rw [if_pos e]; simp [e, hn]
    · rw [if_neg e]
      have : decide (k = j) = false := by simpa using fun h => e h.symm
      rw [this, Bool.or_false]
      exact h2 j hj
theorem drop_err {b : Beast} (hb : beastErr b = 0) (hv : b.v.length = 8) {k : Nat} (hk : k < 8) (ht : b.k.toNat.testBit k = true) : beastErr (dropB b k) = 0 ∧ (dropB b k).v.length = 8 := by
  obtain ⟨h1, h2⟩ := (beast_iff b).1 hb
  refine ⟨(beast_iff _).2 ⟨?_, fun j hj => ?_⟩, by unfold dropB; rw [List.length_set, hv]⟩
  · unfold dropB
    simp only
    have := Nat.sub_le b.k.toNat (2 ^ k)
    generalize b.k.toNat - 2 ^ k = q at *
    omega
  · unfold dropB
    simp only [Int.toNat_natCast]
    rw [sub_bits b.k.toNat k j (by omega) hk hj ht, getD_set8 hv hk]
    by_cases e : j = k
    · rw [if_pos e]; simp
    · rw [if_neg e]
      have : decide (k = j) = false := by simpa using fun h => e h.symm
      rw [this]
      simpa using h2 j hj

/-! ### slots -/
theorem live_set {ls : List (Int × Bool)} {k : Nat} (hk : k < ls.length) (g : Int) (b : Bool) (s g' : Int) : liveB (ls.set k (g, b)) s g' = if s = (k : Int) then (decide (g = g') && b) else liveB ls s g' := by
  unfold liveB
  rw [List.length_set]
  by_cases e : s = (k : Int)
  · subst e
    rw [if_pos rfl]
    simp [hk, List.getD_eq_getElem?_getD]
  · rw [if_neg e]
    by_cases h0 : 0 ≤ s
    · have hne : k ≠ s.toNat := by omega
      rw [List.getD_eq_getElem?_getD, List.getElem?_set_ne hne, ← List.getD_eq_getElem?_getD]
    · simp [h0]
theorem live_app (ls : List (Int × Bool)) (s g' : Int) : liveB (ls ++ [(0, true)]) s g' = if s = (ls.length : Int) then decide (0 = g') else liveB ls s g' := by
  unfold liveB
  rw [List.length_append, List.length_singleton]
  by_cases e : s = (ls.length : Int)
  · subst e
    rw [if_pos rfl]
    have h1 : decide ((ls.length : Int) < ((ls.length + 1 : Nat) : Int)) = true := decide_eq_true (by omega)
    rw [h1]
    simp [List.getD_eq_getElem?_getD]
  · rw [if_neg e]
    by_cases h0 : 0 ≤ s
    · by_cases h1 : s < ls.length
      · have h3 : decide (s < ((ls.length + 1 : Nat) : Int)) = true := decide_eq_true (by omega)
        rw [List.getD_eq_getElem?_getD, List.getElem?_append_left (by omega), ← List.getD_eq_getElem?_getD, h3, decide_eq_true h1]
      · have h3 : decide (s < ((ls.length + 1 : Nat) : Int)) = false := decide_eq_false (by omega)
        rw [h3, decide_eq_false h1]
        simp
    · simp [h0]
theorem take_spec {ls : List (Int × Bool)} (h60 : ls.length ≤ 60) : takeR ls = (ls, (0, 0), 2) ∨
    ∃ (k : Nat) (g : Int) (ls' : List (Int × Bool)), takeR ls = (ls', ((k : Int), g), 0) ∧ k < 60 ∧ (∀ g', liveB ls k g' = false) ∧ ∀ s g', liveB ls' s g' = if s = (k : Int) then decide (g = g') else liveB ls s g' := by
  unfold takeR
  by_cases hlt : ls.findIdx freeB < ls.length
  · right
    rw [if_pos hlt]
    refine ⟨_, _, _, rfl, by omega, fun g' => ?_, fun s g' => ?_⟩
    · have hf := List.findIdx_getElem (w := hlt)
      simp only [freeB, Bool.and_eq_true, Bool.not_eq_true'] at hf
      rw [liveB_iff hlt, sl, getD_at hlt, hf.1, Bool.and_false]
    · rw [live_set hlt]; simp
  · rw [if_neg hlt]
    by_cases h : ls.length = 60
    · exact Or.inl (by rw [if_pos h])
    · right
      rw [if_neg h]
      refine ⟨_, _, _, rfl, by omega, fun g' => ?_, fun s g' => live_app ls s g'⟩
      unfold liveB; simp

/-- a world that may be -/
structure WOk (ls : List (Int × Bool)) (f : BF) : Prop where
  so : SOk ls
  lv : ∀ s g, liveB ls s g = true ↔ ∃ b, f s = some (g, b)
  bo : ∀ s g b, f s = some (g, b) → beastErr b = 0 ∧ b.v.length = 8
theorem WOk.nil : WOk [] (fun _ => none) := ⟨SOk.nil, fun s g => by simp [liveB], by simp⟩

def spawnW (ls : List (Int × Bool)) (f : BF) (b : Beast) : (List (Int × Bool) × BF) × (Int × Int) × Int :=
  if beastErr b ≠ 0 then ((ls, f), (0, 0), beastErr b)
  else if (takeR ls).2.2 = 0 then (((takeR ls).1, updB f (takeR ls).2.1.1 (some ((takeR ls).2.1.2, b))), (takeR ls).2.1, 0)
  else (((takeR ls).1, f), (takeR ls).2.1, (takeR ls).2.2)
def killW (ls : List (Int × Bool)) (f : BF) (h : Int × Int) : (List (Int × Bool) × BF) × Int :=
  if liveB ls h.1 h.2 then (((freeR ls h.1 h.2).1, updB f h.1 none), 0) else ((ls, f), 7)
def beastOf (f : BF) (s : Int) : Beast := ((f s).getD (0, ⟨0, []⟩)).2
def putW (ls : List (Int × Bool)) (f : BF) (h : Int × Int) (kind n : Int) : BF × Int :=
  if !liveB ls h.1 h.2 then (f, 7) else if ¬ (0 ≤ kind ∧ kind < 8) ∨ n < -1000000000 ∨ 1000000000 < n then (f, 1)
  else (updB f h.1 (some (h.2, putB (beastOf f h.1) kind.toNat n)), 0)
def dropW (ls : List (Int × Bool)) (f : BF) (h : Int × Int) (kind : Int) : BF × Int :=
  if !liveB ls h.1 h.2 then (f, 7) else if ¬ (0 ≤ kind ∧ kind < 8) then (f, 1)
  else if (beastOf f h.1).k.toNat.testBit kind.toNat = false then (f, 5)
  else (updB f h.1 (some (h.2, dropB (beastOf f h.1) kind.toNat)), 0)
def zeroBst : Beast := ⟨0, [0, 0, 0, 0, 0, 0, 0, 0]⟩
def getW (ls : List (Int × Bool)) (f : BF) (h : Int × Int) : Beast × Int := if liveB ls h.1 h.2 then (beastOf f h.1, 0) else (zeroBst, 7)

section
variable {ls : List (Int × Bool)} {f : BF}
theorem WOk.get (h : WOk ls f) {s g : Int} (hl : liveB ls s g = true) : f s = some (g, beastOf f s) := by
  obtain ⟨b, hb⟩ := (h.lv s g).1 hl
  unfold beastOf
  rw [hb]; rfl
theorem WOk.upd (h : WOk ls f) {s g : Int} (hl : liveB ls s g = true) {b : Beast} (hb : beastErr b = 0 ∧ b.v.length = 8) : WOk ls (updB f s (some (g, b))) := by
  refine ⟨h.so, fun s' g' => ?_, fun s' g' b' hs => ?_⟩
  · unfold updB
    by_cases e : s' = s
    · subst e
      rw [if_pos rfl]
      constructor
      · intro hl'
        have h1 := h.get hl
        rw [h.get hl'] at h1
        injection h1 with h1
        injection h1 with h1 _
        exact ⟨b, by rw [h1]⟩
      · rintro ⟨b', hb'⟩
        injection hb' with hb'
        injection hb' with h1 _
        rw [← h1]; exact hl
    · rw [if_neg e]; exact h.lv s' g'
  · unfold updB at hs
    split at hs
    · injection hs with hs
      injection hs with _ hs
      rw [← hs]; exact hb
    · exact h.bo s' g' b' hs
theorem WOk.spawn (h : WOk ls f) {b : Beast} (hv : b.v.length = 8) : WOk (spawnW ls f b).1.1 (spawnW ls f b).1.2 := by
  unfold spawnW
  by_cases hb : beastErr b = 0
  · rw [if_neg (fun h => h hb)]
    rcases take_spec h.so.1 with ht | ⟨k, g, ls', ht, hk, hdead, hlive⟩
    · rw [ht, if_neg (by simp)]; exact h
    · have h1 := take_ok h.so
      rw [ht] at h1 ⊢
      rw [if_pos rfl]
      refine ⟨h1, fun s g' => ?_, fun s g' b' hs => ?_⟩
      · simp only
        rw [hlive]
        unfold updB
        by_cases e : s = (k : Int)
        · rw [if_pos e, if_pos e]
          simp
        · rw [if_neg e, if_neg e]; exact h.lv s g'
      · simp only [updB] at hs
        split at hs
        · injection hs with hs
          injection hs with _ hs
          rw [← hs]; exact ⟨hb, hv⟩
        · exact h.bo s g' b' hs
  · rw [if_pos hb]; exact h
theorem WOk.kill (h : WOk ls f) (x : Int × Int) : WOk (killW ls f x).1.1 (killW ls f x).1.2 := by
  unfold killW
  split
  · rename_i hl
    refine ⟨free_ok h.so _ _, fun s g => ?_, fun s g b hs => ?_⟩
    · obtain ⟨k, hk1, hk2, hk3⟩ := live_true hl
      simp only
      unfold freeR
      rw [if_pos hl]
      simp only [hk1, Int.toNat_natCast]
      rw [live_set hk2]
      unfold updB
      by_cases e : s = (k : Int)
      · rw [if_pos e, if_pos e]; simp
      · rw [if_neg e, if_neg e]; exact h.lv s g
    · simp only [updB] at hs
      split at hs
      · cases hs
      · exact h.bo s g b hs
  · exact h
theorem WOk.put (h : WOk ls f) (x : Int × Int) (kind n : Int) : WOk ls (putW ls f x kind n).1 := by
  unfold putW
  split
  · exact h
  · rename_i hl
    split
    · exact h
    · rename_i hc
      have hl : liveB ls x.1 x.2 = true := by simpa using hl
      obtain ⟨h1, h2⟩ := h.bo _ _ _ (h.get hl)
      exact h.upd hl (put_err h1 h2 (by omega) (by omega))
theorem WOk.drop (h : WOk ls f) (x : Int × Int) (kind : Int) : WOk ls (dropW ls f x kind).1 := by
  unfold dropW
  split
  · exact h
  · rename_i hl
    split
    · exact h
    · split
      · exact h
      · rename_i hk ht
        have hl : liveB ls x.1 x.2 = true := by simpa using hl
        obtain ⟨h1, h2⟩ := h.bo _ _ _ (h.get hl)
        exact h.upd hl (drop_err h1 h2 (by omega) (by simpa using ht))
end

end Go.Proofs.YtpgcghnlepnoiaaGreatDoor

/-
  The rows of a world, as plain data.
-/
namespace Go.Proofs.YtpgcghnlepnoiaaGreatDoor

def rowFW (f : BF) (h : Int × Int) : Option RowM := (f h.1).map fun x => ⟨h, x.2⟩
def rowsW (ls : List (Int × Bool)) (f : BF) (q : Query) : List RowM := ((liveHs ls).filterMap (rowFW f)).filter fun r => matchQ r.b.k q
def sLt (a b : RowM) : Prop := a.h.1 < b.h.1
theorem liveN_sorted (ls : List (Int × Bool)) : ∀ k, (liveN ls k).Pairwise (fun a b => a.1 < b.1) ∧ ∀ x ∈ liveN ls k, x.1 < k
  | 0 => ⟨List.Pairwise.nil, by simp [liveN]⟩
  | k + 1 => by
    obtain ⟨h1, h2⟩ := liveN_sorted ls k
    rw [liveN]
    refine ⟨List.pairwise_append.2 ⟨h1, by split <;> simp, fun a ha b hb => ?_⟩, fun x hx => ?_⟩
    · have := h2 a ha
      split at hb
      · rw [List.mem_singleton.1 hb]; exact this
      · cases hb
    · rcases List.mem_append.1 hx with hx | hx
      · have := h2 x hx; omega
      · split at hx
        · rw [List.mem_singleton.1 hx]; show (k : Int) < _; omega
        · cases hx
theorem live_iff_mem {ls : List (Int × Bool)} {h : Int × Int} : h ∈ liveHs ls ↔ liveB ls h.1 h.2 = true := by
  rw [live_mem]
  constructor
  · rintro ⟨j, hj, rfl, h2⟩
    show liveB ls (j : Int) (sl ls j).1 = true
    rw [liveB_iff hj, h2]; simp
  · intro hl
    obtain ⟨k, h1, h2, h3⟩ := live_true hl
    refine ⟨k, h2, ?_, ?_⟩
    · show h = ((k : Int), (ls.getD k (0, false)).1)
      rw [h3]; exact Prod.ext h1 rfl
    · show (ls.getD k (0, false)).2 = true
      rw [h3]
section
variable {ls : List (Int × Bool)} {f : BF}
theorem mem_all (h : WOk ls f) {r : RowM} : r ∈ (liveHs ls).filterMap (rowFW f) ↔ f r.h.1 = some (r.h.2, r.b) := by
  rw [List.mem_filterMap]
  constructor
  · rintro ⟨x, hx, he⟩
    have hl := live_iff_mem.1 hx
    have hg := h.get hl
    unfold rowFW at he
    rw [hg] at he
    simp only [Option.map_some, Option.some.injEq] at he
    rw [← he]; exact hg
  · intro hr
    refine ⟨r.h, live_iff_mem.2 ((h.lv _ _).2 ⟨_, hr⟩), ?_⟩
    unfold rowFW
    rw [hr]; rfl
theorem mem_rowsW (h : WOk ls f) {q : Query} {r : RowM} : r ∈ rowsW ls f q ↔ f r.h.1 = some (r.h.2, r.b) ∧ matchQ r.b.k q = true := by
  unfold rowsW
  rw [List.mem_filter, mem_all h]
theorem all_sorted (ls : List (Int × Bool)) (f : BF) : ((liveHs ls).filterMap (rowFW f)).Pairwise sLt := by
  refine List.Pairwise.filterMap _ ?_ (liveN_sorted ls ls.length).1
  intro a b hab x hx y hy
  unfold rowFW at hx hy
  obtain ⟨_, _, rfl⟩ := Option.map_eq_some_iff.1 hx
  obtain ⟨_, _, rfl⟩ := Option.map_eq_some_iff.1 hy
  exact hab
theorem rowsW_sorted (ls : List (Int × Bool)) (f : BF) (q : Query) : (rowsW ls f q).Pairwise sLt := (all_sorted ls f).filter _
theorem sorted_slots {l : List RowM} (h : l.Pairwise sLt) : l.Nodup := h.imp fun {a b} h e => by unfold sLt at h; rw [e] at h; omega
/-- two lists in order of slots with the same rows are one -/
theorem rows_eq {l l' : List RowM} (h : l.Pairwise sLt) (h' : l'.Pairwise sLt) (he : ∀ r, r ∈ l ↔ r ∈ l') : l = l' := by
  refine List.Perm.eq_of_pairwise (le := sLt) (fun a b _ _ h1 h2 => by unfold sLt at h1 h2; omega) h h' ?_
  classical
  exact (List.perm_ext_iff_of_nodup (sorted_slots h) (sorted_slots h')).2 he
def zeroQ : Query := ⟨0, 0, 0⟩
theorem rowsW_len (ls : List (Int × Bool)) (f : BF) (q : Query) : (rowsW ls f q).length ≤ ls.length := by
  unfold rowsW
  refine Nat.le_trans (List.length_filter_le _ _) (Nat.le_trans (List.length_filterMap_le _ _) ?_)
  unfold liveHs
  exact liveN_len ls _
/-- what lies in the tables is what there is -/
theorem tables_mem {T : WT} {f : BF} (hT : TRep T f) (hk : ∀ K ∈ T.ks, ∀ r ∈ T.rw K, r.b.k = K) (q : Query) {r : RowM} :
    (∃ K ∈ T.ks, matchQ K q = true ∧ r ∈ T.rw K) ↔ f r.h.1 = some (r.h.2, r.b) ∧ matchQ r.b.k q = true := by
  constructor
  · rintro ⟨K, hK, hm, hr⟩
    obtain ⟨i, hi, hir⟩ := List.mem_iff_getElem.1 hr
    obtain ⟨h1, _⟩ := hT.at_ K hK i r (by rw [List.getElem?_eq_getElem hi, hir])
    rw [hk K hK r hr]
    exact ⟨h1, hm⟩
  · rintro ⟨h1, h2⟩
    obtain ⟨K, hK, i, hi⟩ := hT.all _ _ _ h1
    have hr : r ∈ T.rw K := List.mem_of_getElem? hi
    exact ⟨K, hK, by rw [← hk K hK r hr]; exact h2, hr⟩
/-- a sort of what lies in the tables that match -/
theorem tables_sort {T : WT} (hT : TRep T f) (h : WOk ls f) (hk : ∀ K ∈ T.ks, ∀ r ∈ T.rw K, r.b.k = K) (q : Query) {ks : List Int} (hp : ks.Perm T.ks) {ys : List RowM}
    (hy : ys.Perm ((ks.filter fun K => matchQ K q).flatMap T.rw)) (hs : ys.Pairwise fun a b => ¬ b.h.1 < a.h.1) : ys = rowsW ls f q := by
  have hmem : ∀ r, r ∈ ys ↔ f r.h.1 = some (r.h.2, r.b) ∧ matchQ r.b.k q = true := by
    intro r
    rw [hy.mem_iff, List.mem_flatMap, ← tables_mem hT hk q]
    constructor
    · rintro ⟨K, hK, hr⟩
      rw [List.mem_filter] at hK
      exact ⟨K, hp.mem_iff.1 hK.1, hK.2, hr⟩
    · rintro ⟨K, hK, hm, hr⟩
      exact ⟨K, List.mem_filter.2 ⟨hp.mem_iff.2 hK, hm⟩, hr⟩
  have hnd : (((ks.filter fun K => matchQ K q).flatMap T.rw).map fun r => r.h.1).Nodup := by
    have hkn : (ks.filter fun K => matchQ K q).Nodup := (hp.nodup_iff.2 hT.nd).sublist List.filter_sublist
    have hsub : ∀ K ∈ (ks.filter fun K => matchQ K q), K ∈ T.ks := fun K hK => hp.mem_iff.1 (List.mem_filter.1 hK).1
    generalize (ks.filter fun K => matchQ K q) = zs at hkn hsub
    induction zs with
    | nil => simp
    | cons K zs ih =>
      obtain ⟨g1, g2⟩ := List.nodup_cons.1 hkn
      rw [List.flatMap_cons, List.map_append, List.nodup_append]
      have key : ∀ K' ∈ T.ks, ∀ (i : Nat) r, (T.rw K')[i]? = some r → mget T.ps r.h.1 = some (K', (i : Int)) := fun K' hK' i r hr => (hT.at_ K' hK' i r hr).2
      refine ⟨?_, ih g2 (fun K' hK' => hsub K' (List.mem_cons_of_mem _ hK')), ?_⟩
      · refine nodup_of fun i j x hij hi hj => ?_
        rw [List.getElem?_map] at hi hj
        obtain ⟨r, hr, rfl⟩ := Option.map_eq_some_iff.1 hi
        obtain ⟨r', hr', e⟩ := Option.map_eq_some_iff.1 hj
        have h1 := key K (hsub K (by simp)) i r hr
        have h2 := key K (hsub K (by simp)) j r' hr'
        rw [← e, h2] at h1
        injection h1 with h1
        injection h1 with _ h1
        omega
      · intro a ha b hb e
        obtain ⟨r, hr, rfl⟩ := List.mem_map.1 ha
        obtain ⟨r', hr', rfl⟩ := List.mem_map.1 hb
        obtain ⟨K', hK', hr'⟩ := List.mem_flatMap.1 hr'
        obtain ⟨i, hi, hir⟩ := List.mem_iff_getElem.1 hr
        obtain ⟨j, hj, hjr⟩ := List.mem_iff_getElem.1 hr'
        have h1 := key K (hsub K (by simp)) i r (by rw [List.getElem?_eq_getElem hi, hir])
        have h2 := key K' (hsub K' (List.mem_cons_of_mem _ hK')) j r' (by rw [List.getElem?_eq_getElem hj, hjr])
        rw [e, h2] at h1
        injection h1 with h1
        injection h1 with h1 _
        exact g1 (by rw [← h1]; exact hK')
  have hyn : (ys.map fun r => r.h.1).Nodup := (hy.map _).nodup_iff.2 hnd
  refine rows_eq ?_ (rowsW_sorted ls f q) fun r => by rw [hmem, mem_rowsW h]
  rw [List.Nodup, List.pairwise_map] at hyn
  exact (hs.and hyn).imp fun {a b} ⟨h1, h2⟩ => by unfold sLt; omega
end

end Go.Proofs.YtpgcghnlepnoiaaGreatDoor

/-
  The laws of a world, as plain data.
-/
namespace Go.Proofs.YtpgcghnlepnoiaaGreatDoor

theorem fm_congr {α β : Type} {f g : α → Option β} : ∀ {l : List α}, (∀ x ∈ l, f x = g x) → l.filterMap f = l.filterMap g
  | [], _ => rfl
  | a :: l, h => by rw [List.filterMap_cons, List.filterMap_cons, h a (by simp), fm_congr (l := l) fun x hx => h x (by simp [hx])]
def doW (s : List (Int × Bool) × BF) (o : OpM) : List (Int × Bool) × BF :=
  if o.d = 1 then (spawnW s.1 s.2 o.b).1 else if o.d = 2 then (killW s.1 s.2 o.a).1 else if o.d = 3 then (s.1, (putW s.1 s.2 o.a o.k o.n).1) else if o.d = 4 then (s.1, (dropW s.1 s.2 o.a o.k).1) else s
def madeW (os : List OpM) : List (Int × Bool) × BF := os.foldl doW ([], fun _ => none)
def madeTo (os : List OpM) (k : Nat) : List (Int × Bool) × BF := madeW (os.take k)
theorem madeTo_succ (os : List OpM) (k : Nat) (h : k < os.length) : madeTo os (k + 1) = doW (madeTo os k) os[k] := by
  unfold madeTo madeW
  rw [List.take_succ_eq_append_getElem h, List.foldl_append]; rfl
theorem doW_ok {s : List (Int × Bool) × BF} (h : WOk s.1 s.2) {o : OpM} (hv : o.b.v.length = 8) : WOk (doW s o).1 (doW s o).2 := by
  unfold doW
  split
  · exact h.spawn hv
  · split
    · exact h.kill _
    · split
      · exact h.put _ _ _
      · split
        · exact h.drop _ _
        · exact h
theorem madeW_ok {os : List OpM} (hv : ∀ o ∈ os, o.b.v.length = 8) : WOk (madeW os).1 (madeW os).2 := by
  unfold madeW
  have : ∀ (os : List OpM) (s : List (Int × Bool) × BF), WOk s.1 s.2 → (∀ o ∈ os, o.b.v.length = 8) → WOk (os.foldl doW s).1 (os.foldl doW s).2 := by
    intro os
    induction os with
    | nil => intro s h _; exact h
    | cons o os ih => intro s h hv; exact ih _ (doW_ok h (hv o (by simp))) (fun o ho => hv o (by simp [ho]))
  exact this os _ WOk.nil hv

section
variable {ls : List (Int × Bool)} {f : BF}
def allW (ls : List (Int × Bool)) (f : BF) : List RowM := (liveHs ls).filterMap (rowFW f)
theorem mem_allW (h : WOk ls f) {r : RowM} : r ∈ allW ls f ↔ f r.h.1 = some (r.h.2, r.b) := mem_all h
theorem rows_all (hz : ∀ k, matchQ k zeroQ = true) : rowsW ls f zeroQ = allW ls f := by
  unfold rowsW allW
  exact List.filter_eq_self.2 fun r _ => hz _
theorem live_one (h : WOk ls f) {x y : Int × Int} (hx : liveB ls x.1 x.2 = true) (hy : liveB ls y.1 y.2 = true) (e : x.1 = y.1) : x = y := by
  have h1 := h.get hx
  have h2 := h.get hy
  rw [e] at h1
  rw [h1] at h2
  injection h2 with h2
  injection h2 with h2 _
  exact Prod.ext e h2
theorem upd_rows (h : WOk ls f) {x : Int × Int} (hx : liveB ls x.1 x.2 = true) (b : Beast) :
    allW ls (updB f x.1 (some (x.2, b))) = (allW ls f).map fun r => if r.h = x then ⟨r.h, b⟩ else r := by
  unfold allW
  rw [List.map_filterMap]
  refine fm_congr fun y hy => ?_
  have hl := live_iff_mem.1 hy
  unfold rowFW updB
  by_cases e : y.1 = x.1
  · have e2 := live_one h hl hx e
    subst e2
    rw [if_pos rfl, h.get hl]
    simp
  · rw [if_neg e, h.get hl]
    have : y ≠ x := fun e' => e (by rw [e'])
    simp [this]
theorem put_rows (h : WOk ls f) {x : Int × Int} {kind n : Int} (he : (putW ls f x kind n).2 = 0) :
    (0 ≤ kind ∧ kind < 8) ∧ (-1000000000 ≤ n ∧ n ≤ 1000000000) ∧ liveB ls x.1 x.2 = true ∧ allW ls (putW ls f x kind n).1 = (allW ls f).map fun r => if r.h = x then ⟨r.h, putB r.b kind.toNat n⟩ else r := by
  unfold putW at he ⊢
  split at he
  · cases he
  · rename_i hl
    have hl : liveB ls x.1 x.2 = true := by simpa using hl
    split at he
    · cases he
    · rename_i hc
      rw [if_neg (by simp [hl]), if_neg hc]
      refine ⟨by omega, by omega, hl, ?_⟩
      rw [upd_rows h hl]
      apply List.map_congr_left
      intro r hr
      by_cases e : r.h = x
      · rw [if_pos e, if_pos e]
        have h1 := (mem_all h).1 hr
        rw [e, h.get hl] at h1
        injection h1 with h1
        injection h1 with _ h1
        rw [← h1]
      · rw [if_neg e, if_neg e]
theorem put_same {x : Int × Int} {kind n : Int} (he : (putW ls f x kind n).2 ≠ 0) : (putW ls f x kind n).1 = f := by
  unfold putW at he ⊢
  split
  · rfl
  · rename_i h1
    split
    · rfl
    · rename_i h2
      rw [if_neg h1, if_neg h2] at he
      exact absurd rfl he
/-- all that is not of one slot -/
theorem kill_rows (h : WOk ls f) {k : Nat} (hk : k < (allW ls f).length) :
    (killW ls f (allW ls f)[k].h).2 = 0 ∧ allW (killW ls f (allW ls f)[k].h).1.1 (killW ls f (allW ls f)[k].h).1.2 = (allW ls f).take k ++ (allW ls f).drop (k + 1) := by
  have hr := (mem_all h).1 (List.getElem_mem hk)
  have hl : liveB ls (allW ls f)[k].h.1 (allW ls f)[k].h.2 = true := (h.lv _ _).2 ⟨_, hr⟩
  have hok := h.kill (allW ls f)[k].h
  have hs := all_sorted ls f
  have he : killW ls f (allW ls f)[k].h = (((freeR ls (allW ls f)[k].h.1 (allW ls f)[k].h.2).1, updB f (allW ls f)[k].h.1 none), 0) := by unfold killW; rw [if_pos hl]
  refine ⟨by rw [he], ?_⟩
  have hsub : ((allW ls f).take k ++ (allW ls f).drop (k + 1)).Sublist (allW ls f) := by
    conv => rhs; rw [← List.take_append_drop k (allW ls f)]
    refine List.Sublist.append (List.Sublist.refl _) ?_
    rw [List.drop_eq_getElem_cons hk]
    exact List.sublist_cons_self _ _
  refine rows_eq (all_sorted _ _) (List.Pairwise.sublist hsub hs) fun r => ?_
  rw [mem_allW hok, he]
  simp only
  have hall := mem_allW h (r := r)
  have hsplit : allW ls f = (allW ls f).take k ++ (allW ls f)[k] :: (allW ls f).drop (k + 1) := by
    rw [← List.drop_eq_getElem_cons hk, List.take_append_drop]
  change updB f (allW ls f)[k].h.1 none r.h.1 = some (r.h.2, r.b) ↔ r ∈ (allW ls f).take k ++ (allW ls f).drop (k + 1)
  have hsp : ((allW ls f).take k ++ (allW ls f)[k] :: (allW ls f).drop (k + 1)).Pairwise sLt := by rw [← hsplit]; exact hs
  obtain ⟨p1, p2, p3⟩ := List.pairwise_append.1 hsp
  obtain ⟨p4, p5⟩ := List.pairwise_cons.1 p2
  unfold updB
  constructor
  · intro hu
    split at hu
    · cases hu
    · rename_i hne
      have h0 := hall.2 hu
      have : r ∈ (allW ls f).take k ++ (allW ls f)[k] :: (allW ls f).drop (k + 1) := by rw [← hsplit]; exact h0
      rw [List.mem_append, List.mem_cons] at this
      rw [List.mem_append]
      rcases this with h1 | h1 | h1
      · exact Or.inl h1
      · exact absurd (by rw [h1]) hne
      · exact Or.inr h1
  · intro hm
    have hne : r.h.1 ≠ (allW ls f)[k].h.1 := by
      rw [List.mem_append] at hm
      rcases hm with hm | hm
      · have := p3 r hm _ List.mem_cons_self; unfold sLt at this; omega
      · have := p4 r hm; unfold sLt at this; omega
    rw [if_neg hne]
    exact hall.1 (hsub.subset hm)
end

end Go.Proofs.YtpgcghnlepnoiaaGreatDoor

/-
  A zoo as plain data: slots, beasts and bonds; what its operations do to them.
-/
namespace Go.Proofs.YtpgcghnlepnoiaaGreatDoor

/-! ### a family does not depend on the order of its list -/
def Alike (m m' : Fam) : Prop := ∀ x, mget m x = mget m' x
section
variable {m m' : Fam} {c p h x y : Hd}
theorem nodup_of_keys (hn : (mkeys m).Nodup) : m.Nodup := List.Pairwise.of_map (·.1) (fun a b hne e => hne (by rw [e])) hn
theorem Alike.symm (ha : Alike m m') : Alike m' m := fun x => (ha x).symm
theorem alike_bonds (hn : (mkeys m).Nodup) : Alike (bondsOf m) m := fun x => by
  have hp : (bondsOf m).Perm m := List.mergeSort_perm m _
  have hn' : (mkeys (bondsOf m)).Nodup := (hp.map _).nodup_iff.2 hn
  apply Option.ext
  intro v
  rw [mget_iff hn', mget_iff hn, hp.mem_iff]
theorem bonds_nodup (hn : (mkeys m).Nodup) : (mkeys (bondsOf m)).Nodup := ((List.mergeSort_perm m _).map _).nodup_iff.2 hn
theorem bonds_congr (hn : (mkeys m).Nodup) (hn' : (mkeys m').Nodup) (ha : Alike m m') : bondsOf m = bondsOf m' := by
  have hp : (bondsOf m').Perm m := by
    have h1 : m'.Perm m := (List.perm_ext_iff_of_nodup (nodup_of_keys hn') (nodup_of_keys hn)).2 fun b => by
      rw [← mget_iff hn', ← mget_iff hn, ha]
    exact (List.mergeSort_perm m' _).trans h1
  exact (ksort_of_sorted (·.1) (bond_inj hn) hp (ksort_sorted (·.1) m')).symm
theorem bonds_twice (hn : (mkeys m).Nodup) : bondsOf (bondsOf m) = bondsOf m := bonds_congr (bonds_nodup hn) hn (alike_bonds hn)
theorem Alike.up (ha : Alike m m') (hu : Up m x y) : Up m' x y := hu.mono fun c p e => by rw [← ha]; exact e
theorem Alike.up_iff (ha : Alike m m') : Up m x y ↔ Up m' x y := ⟨ha.up, ha.symm.up⟩
theorem Alike.kids (hn : (mkeys m).Nodup) (hn' : (mkeys m').Nodup) (ha : Alike m m') (h : Hd) : kids m h = kids m' h := by
  refine sorted_eq ((List.perm_ext_iff_of_nodup (kids_nodup hn h) (kids_nodup hn' h)).2 fun x => ?_) (sort_sorted _) (sort_sorted _)
  rw [mem_kids hn, mem_kids hn', ha]
theorem Alike.acyc (ha : Alike m m') (h : Acyc m) : Acyc m' := h.sub fun c p e => by rw [ha]; exact e
theorem Alike.under (hm : FamOk m) (hm' : FamOk m') (ha : Alike m m') (h : Hd) : under m h = under m' h := by
  refine under_induct hm.nodup hm.acyc (fun h => Go.Proofs.YtpgcghnlepnoiaaGreatDoor.under m h = Go.Proofs.YtpgcghnlepnoiaaGreatDoor.under m' h) (fun h ih => ?_) h
  rw [under_eq hm.nodup hm.acyc, under_eq hm'.nodup hm'.acyc, Alike.kids hm.nodup hm'.nodup ha]
  refine flatMap_same fun c hc => ?_
  rw [ih c (by rw [ha]; exact (mem_kids hm'.nodup).1 hc)]
theorem Alike.put (ha : Alike m m') (c p : Hd) : Alike (mput m c p) (mput m' c p) := fun x => by
  rw [mget_mput, mget_mput, ha]
theorem Alike.del (ha : Alike m m') (c : Hd) : Alike (mdel m c) (mdel m' c) := fun x => by
  rw [mget_mdel, mget_mdel, ha]
theorem Alike.gone (hn : (mkeys m).Nodup) (hn' : (mkeys m').Nodup) (ha : Alike m m') (h : Hd) : Alike (goneR m h) (goneR m' h) := fun x => by
  apply Option.ext
  intro v
  rw [mget_gone hn, mget_gone hn', ha]
theorem Alike.adopt (ha : Alike m m') (c p : Hd) : Alike (adoptR m c p).1 (adoptR m' c p).1 ∧ (adoptR m c p).2 = (adoptR m' c p).2 := by
  unfold adoptR
  have e : (c = p ∨ Up m p c) ↔ (c = p ∨ Up m' p c) := by rw [ha.up_iff]
  by_cases hc : c = p ∨ Up m p c
  · rw [if_pos hc, if_pos (e.1 hc)]; exact ⟨ha, rfl⟩
  · rw [if_neg hc, if_neg (fun h => hc (e.2 h))]; exact ⟨ha.put c p, rfl⟩
theorem Alike.loosen (ha : Alike m m') (c : Hd) : Alike (loosenR m c).1 (loosenR m' c).1 ∧ (loosenR m c).2 = (loosenR m' c).2 := by
  unfold loosenR
  rw [ha c]
  split
  · exact ⟨ha.del c, rfl⟩
  · exact ⟨ha, rfl⟩
end

/-! ### the zoo -/
theorem bonds_nil : bondsOf [] = [] := by unfold bondsOf; simp
structure ZS where
  ls : List (Int × Bool)
  f : BF
  B : Fam
def ZS.live (z : ZS) (h : Hd) : Bool := liveB z.ls h.1 h.2
structure ZOk (z : ZS) : Prop where
  w : WOk z.ls z.f
  fam : FamOk z.B
  srt : bondsOf z.B = z.B
  lv : ∀ b ∈ z.B, z.live b.1 = true ∧ z.live b.2 = true
def zoo0 : ZS := ⟨[], fun _ => none, []⟩
theorem ZOk.nil : ZOk zoo0 := ⟨WOk.nil, FamOk.nil, by unfold zoo0 bondsOf; simp, by simp [zoo0]⟩
def ZS.rows (z : ZS) : List RowM := allW z.ls z.f
def ZS.gens (z : ZS) : List Int := z.ls.map (·.1)

/-- one of the world and of the family goes -/
def kill1 (z : ZS) (x : Hd) : ZS := ⟨(killW z.ls z.f x).1.1, (killW z.ls z.f x).1.2, goneR z.B x⟩
def kills (z : ZS) (l : List Hd) : ZS := l.foldl kill1 z
noncomputable def killL (z : ZS) (x : Hd) : List Hd := (under z.B x).reverse ++ [x]
noncomputable def killZ (z : ZS) (x : Hd) : ZS × Int := if z.live x = true then (kills z (killL z x), 0) else (z, 7)
noncomputable def adoptZ (z : ZS) (c p : Hd) : ZS × Int := if z.live c = true ∧ z.live p = true then (⟨z.ls, z.f, bondsOf (adoptR z.B c p).1⟩, (adoptR z.B c p).2) else (z, 7)
def loosenZ (z : ZS) (c : Hd) : ZS × Int := if z.live c = true then (⟨z.ls, z.f, (loosenR z.B c).1⟩, (loosenR z.B c).2) else (z, 7)
noncomputable def doZ (z : ZS) (o : OpM) : ZS × Hd × Int :=
  if o.d = 1 then (⟨(spawnW z.ls z.f o.b).1.1, (spawnW z.ls z.f o.b).1.2, z.B⟩, (spawnW z.ls z.f o.b).2.1, (spawnW z.ls z.f o.b).2.2)
  else if o.d = 2 then ((killZ z o.a).1, (0, 0), (killZ z o.a).2)
  else if o.d = 3 then (⟨z.ls, (putW z.ls z.f o.a o.k o.n).1, z.B⟩, (0, 0), (putW z.ls z.f o.a o.k o.n).2)
  else if o.d = 4 then (⟨z.ls, (dropW z.ls z.f o.a o.k).1, z.B⟩, (0, 0), (dropW z.ls z.f o.a o.k).2)
  else if o.d = 5 then ((adoptZ z o.a o.t).1, (0, 0), (adoptZ z o.a o.t).2)
  else if o.d = 6 then ((loosenZ z o.a).1, (0, 0), (loosenZ z o.a).2)
  else (z, (0, 0), 1)
noncomputable def doneZ (os : List OpM) : ZS := os.foldl (fun z o => (doZ z o).1) zoo0
noncomputable def doneTo (os : List OpM) (k : Nat) : ZS := doneZ (os.take k)
theorem doneTo_succ (os : List OpM) (k : Nat) (h : k < os.length) : doneTo os (k + 1) = (doZ (doneTo os k) os[k]).1 := by
  unfold doneTo doneZ
  rw [List.take_succ_eq_append_getElem h, List.foldl_append]; rfl

section
variable {z : ZS} {x c p : Hd}
theorem kill_live (h : WOk z.ls z.f) (y : Hd) : liveB (killW z.ls z.f x).1.1 y.1 y.2 = (liveB z.ls y.1 y.2 && !decide (y = x)) := by
  have h1 := (h.kill x).lv y.1 y.2
  have h2 := h.lv y.1 y.2
  rw [Bool.eq_iff_iff, h1, Bool.and_eq_true, h2]
  unfold killW
  by_cases hl : liveB z.ls x.1 x.2 = true
  · rw [if_pos hl]
    simp only [updB]
    by_cases e : y.1 = x.1
    · rw [if_pos e]
      constructor
      · rintro ⟨b, hb⟩; cases hb
      · rintro ⟨hb, hne⟩
        exact absurd (live_one h (h2.2 hb) hl e) (by simpa using hne)
    · rw [if_neg e]
      have hne : y ≠ x := fun e' => e (by rw [e'])
      simp [hne]
  · rw [if_neg hl]
    constructor
    · intro hb
      refine ⟨hb, ?_⟩
      have hne : y ≠ x := fun e => hl (by rw [← e]; exact h2.2 hb)
      simpa using hne
    · exact fun hb => hb.1
theorem ZOk.kill1 (h : ZOk z) (x : Hd) : ZOk (kill1 z x) := by
  refine ⟨h.w.kill x, h.fam.gone x, ?_, fun b hb => ?_⟩
  · change bondsOf (goneR z.B x) = goneR z.B x
    rw [bonds_gone h.fam.nodup, h.srt]; rfl
  · have hb' : b ∈ z.B ∧ ¬ b.1 = x ∧ ¬ b.2 = x := by
      have hb : b ∈ goneR z.B x := hb
      unfold goneR at hb
      rw [List.mem_filter] at hb
      simpa using hb
    have h1 := h.lv b hb'.1
    change liveB (killW z.ls z.f x).1.1 b.1.1 b.1.2 = true ∧ liveB (killW z.ls z.f x).1.1 b.2.1 b.2.2 = true
    rw [kill_live h.w, kill_live h.w]
    have h11 : liveB z.ls b.1.1 b.1.2 = true := h1.1
    have h12 : liveB z.ls b.2.1 b.2.2 = true := h1.2
    rw [h11, h12]
    simp [hb'.2.1, hb'.2.2]
theorem ZOk.kills (h : ZOk z) (l : List Hd) : ZOk (kills z l) := by
  unfold Go.Proofs.YtpgcghnlepnoiaaGreatDoor.kills
  induction l generalizing z with
  | nil => exact h
  | cons a l ih => exact ih (h.kill1 a)
theorem kill1_rows (h : ZOk z) (x : Hd) : (kill1 z x).rows = z.rows.filter fun r => !decide (r.h = x) := by
  refine rows_eq (all_sorted _ _) ((all_sorted _ _).filter _) fun r => ?_
  rw [List.mem_filter]
  unfold ZS.rows
  rw [mem_allW h.w, mem_allW (h.kill1 x).w]
  change (killW z.ls z.f x).1.2 r.h.1 = some (r.h.2, r.b) ↔ _
  unfold killW
  by_cases hl : liveB z.ls x.1 x.2 = true
  · rw [if_pos hl]
    simp only [updB]
    by_cases e : r.h.1 = x.1
    · rw [if_pos e]
      constructor
      · intro hb; cases hb
      · rintro ⟨hb, hne⟩
        exact absurd (live_one h.w ((h.w.lv _ _).2 ⟨_, hb⟩) hl e) (by simpa using hne)
    · rw [if_neg e]
      have hne : r.h ≠ x := fun e' => e (by rw [e'])
      simp [hne]
  · rw [if_neg hl]
    constructor
    · intro hb
      refine ⟨hb, ?_⟩
      have hne : r.h ≠ x := fun e => hl (by rw [← e]; exact (h.w.lv _ _).2 ⟨_, hb⟩)
      simpa using hne
    · exact fun hb => hb.1
theorem kills_rows (h : ZOk z) (l : List Hd) : (kills z l).rows = z.rows.filter fun r => !decide (r.h ∈ l) := by
  unfold kills
  induction l generalizing z with
  | nil => exact (List.filter_eq_self.2 (by simp)).symm
  | cons a l ih =>
    have h1 := ih (h.kill1 a)
    rw [List.foldl_cons, h1, kill1_rows h, List.filter_filter]
    congr 1
    funext r
    by_cases e1 : r.h = a <;> by_cases e2 : r.h ∈ l <;> simp [e1, e2]
theorem ZOk.kill (h : ZOk z) (x : Hd) : ZOk (killZ z x).1 := by
  unfold killZ
  split
  · exact h.kills _
  · exact h
theorem ZOk.adopt (h : ZOk z) (c p : Hd) : ZOk (adoptZ z c p).1 := by
  unfold adoptZ
  split
  · rename_i hl
    have h1 := h.fam.adopt c p
    refine ⟨h.w, ⟨bonds_nodup h1.nodup, (alike_bonds h1.nodup).symm.acyc h1.acyc⟩, bonds_twice h1.nodup, fun b hb => ?_⟩
    change b ∈ bondsOf (adoptR z.B c p).1 at hb
    rw [mem_bonds h1.nodup] at hb
    have old : mget z.B b.1 = some b.2 → z.live b.1 = true ∧ z.live b.2 = true := fun e => h.lv b ((mget_iff h.fam.nodup).1 e)
    unfold adoptR at hb
    split at hb
    · exact old hb
    · simp only at hb
      rw [mget_mput] at hb
      split at hb
      · rename_i e
        injection hb with hb
        rw [e, ← hb]; exact hl
      · exact old hb
  · exact h
theorem filter_sorted (h : bondsOf z.B = z.B) (P : Hd × Hd → Bool) (hn : (mkeys z.B).Nodup) : bondsOf (z.B.filter P) = z.B.filter P := by
  have hs := ksort_sorted (fun b : Hd × Hd => b.1) z.B
  change List.Pairwise _ (bondsOf z.B) at hs
  rw [h] at hs
  exact (ksort_of_sorted (fun b : Hd × Hd => b.1) (bond_inj (m := z.B.filter P) (hn.sublist (List.filter_sublist.map _))) (List.Perm.refl _) (hs.sublist List.filter_sublist)).symm
theorem ZOk.loosen (h : ZOk z) (c : Hd) : ZOk (loosenZ z c).1 := by
  unfold loosenZ
  split
  · refine ⟨h.w, h.fam.loosen c, ?_, fun b hb => ?_⟩
    · unfold loosenR
      split
      · exact filter_sorted h.srt _ h.fam.nodup
      · exact h.srt
    · change b ∈ (loosenR z.B c).1 at hb
      unfold loosenR at hb
      split at hb
      · exact h.lv b (mem_mdel.1 hb).1
      · exact h.lv b hb
  · exact h
/-- living is by the beasts -/
theorem live_mono {ls ls' : List (Int × Bool)} {f f' : BF} (h : WOk ls f) (h' : WOk ls' f') (hs : ∀ s g b, f s = some (g, b) → ∃ b', f' s = some (g, b')) {s g : Int} (hl : liveB ls s g = true) : liveB ls' s g = true := by
  obtain ⟨b, hb⟩ := (h.lv s g).1 hl
  exact (h'.lv s g).2 (hs s g b hb)
theorem spawn_old {ls : List (Int × Bool)} {f : BF} (h : WOk ls f) {b : Beast} (s g : Int) (b0 : Beast) (e : f s = some (g, b0)) : (spawnW ls f b).1.2 s = some (g, b0) := by
  unfold spawnW
  by_cases hb : beastErr b = 0
  · rw [if_neg (fun h => h hb)]
    rcases take_spec h.so.1 with ht | ⟨k, g', ls', ht, hk, hdead, hlive⟩
    · rw [ht, if_neg (by simp)]; exact e
    · rw [ht, if_pos rfl]
      simp only [updB]
      rw [if_neg]
      · exact e
      · intro e2
        have := (h.lv s g).2 ⟨_, e⟩
        rw [e2, hdead] at this
        cases this
  · rw [if_pos hb]; exact e
theorem ZOk.do_ (h : ZOk z) {o : OpM} (hv : o.b.v.length = 8) : ZOk (doZ z o).1 := by
  unfold doZ
  split
  · have h1 := h.w.spawn (b := o.b) hv
    refine ⟨h1, h.fam, h.srt, fun b hb => ?_⟩
    have h2 := h.lv b hb
    exact ⟨live_mono h.w h1 (fun s g b e => ⟨b, spawn_old h.w s g b e⟩) h2.1, live_mono h.w h1 (fun s g b e => ⟨b, spawn_old h.w s g b e⟩) h2.2⟩
  · split
    · exact h.kill _
    · split
      · exact ⟨h.w.put _ _ _, h.fam, h.srt, h.lv⟩
      · split
        · exact ⟨h.w.drop _ _, h.fam, h.srt, h.lv⟩
        · split
          · exact h.adopt _ _
          · split
            · exact h.loosen _
            · exact h
theorem doneZ_aux (os : List OpM) (hv : ∀ o ∈ os, o.b.v.length = 8) (h : ZOk z) : ZOk (os.foldl (fun z o => (doZ z o).1) z) := by
  induction os generalizing z with
  | nil => exact h
  | cons o os ih => exact ih (fun o ho => hv o (by simp [ho])) (h.do_ (hv o (by simp)))
theorem doneZ_ok {os : List OpM} (hv : ∀ o ∈ os, o.b.v.length = 8) : ZOk (doneZ os) := doneZ_aux os hv ZOk.nil
theorem doneTo_ok {os : List OpM} (hv : ∀ o ∈ os, o.b.v.length = 8) (k : Nat) : ZOk (doneTo os k) := doneZ_ok fun o ho => hv o (List.mem_of_mem_take ho)

/-- what is refused changes nothing -/
theorem spawn_err {ls : List (Int × Bool)} {f : BF} (h : WOk ls f) {b : Beast} (he : (spawnW ls f b).2.2 ≠ 0) : (spawnW ls f b).1 = (ls, f) ∧ (spawnW ls f b).2.1 = (0, 0) := by
  unfold spawnW at he ⊢
  by_cases hb : beastErr b = 0
  · rw [if_neg (fun h => h hb)] at he ⊢
    rcases take_spec h.so.1 with ht | ⟨k, g', ls', ht, hk, hdead, hlive⟩
    · rw [ht] at he ⊢
      rw [if_neg (by simp)]; exact ⟨rfl, rfl⟩
    · rw [ht] at he
      rw [if_pos rfl] at he
      exact absurd rfl he
  · rw [if_pos hb] at he ⊢; exact ⟨rfl, rfl⟩
theorem drop_same {ls : List (Int × Bool)} {f : BF} {x : Hd} {kind : Int} (he : (dropW ls f x kind).2 ≠ 0) : (dropW ls f x kind).1 = f := by
  unfold dropW at he ⊢
  split
  · rfl
  · rename_i h1
    split
    · rfl
    · rename_i h2
      split
      · rfl
      · rename_i h3
        rw [if_neg h1, if_neg h2, if_neg h3] at he
        exact absurd rfl he
theorem doZ_err (h : ZOk z) {o : OpM} (he : (doZ z o).2.2 ≠ 0) : doZ z o = (z, (0, 0), (doZ z o).2.2) := by
  have hz : z = ⟨z.ls, z.f, z.B⟩ := rfl
  unfold doZ at he ⊢
  by_cases h1 : o.d = 1
  · rw [if_pos h1] at he ⊢
    obtain ⟨e1, e2⟩ := spawn_err h.w he
    rw [e1, e2]
  · rw [if_neg h1] at he ⊢
    by_cases h2 : o.d = 2
    · rw [if_pos h2] at he ⊢
      unfold killZ at he ⊢
      split
      · rename_i hl; rw [if_pos hl] at he; exact absurd rfl he
      · rfl
    · rw [if_neg h2] at he ⊢
      by_cases h3 : o.d = 3
      · rw [if_pos h3] at he ⊢
        rw [put_same he]
      · rw [if_neg h3] at he ⊢
        by_cases h4 : o.d = 4
        · rw [if_pos h4] at he ⊢
          rw [drop_same he]
        · rw [if_neg h4] at he ⊢
          by_cases h5 : o.d = 5
          · rw [if_pos h5] at he ⊢
            unfold adoptZ at he ⊢
            split
            · rename_i hl
              rw [if_pos hl] at he
              unfold adoptR at he ⊢
              split
              · simp only; rw [h.srt]
              · rename_i hc; rw [if_neg hc] at he; exact absurd rfl he
            · rfl
          · rw [if_neg h5] at he ⊢
            by_cases h6 : o.d = 6
            · rw [if_pos h6] at he ⊢
              unfold loosenZ at he ⊢
              split
              · rename_i hl
                rw [if_pos hl] at he
                unfold loosenR at he ⊢
                split
                · rename_i hc; rw [if_pos hc] at he; exact absurd rfl he
                · rfl
              · rfl
            · rw [if_neg h6]
theorem doZ_none {o : OpM} (h1 : o.d ≠ 1) : (doZ z o).2.1 = (0, 0) := by
  unfold doZ
  rw [if_neg h1]
  repeat (split; · rfl)
  rfl
/-- there are no more bonds than slots -/
theorem ZOk.len (h : ZOk z) : z.B.length ≤ 60 := by
  have h1 := nodup_le (l := mkeys z.B) (l' := liveHs z.ls) h.fam.nodup fun x hx => by
    obtain ⟨b, hb, rfl⟩ := List.mem_map.1 hx
    exact live_iff_mem.2 (h.lv b hb).1
  have h2 : (liveHs z.ls).length ≤ z.ls.length := by rw [live_count]; exact List.countP_le_length
  have h3 := h.w.so.1
  have h4 : (mkeys z.B).length = z.B.length := by simp [mkeys]
  omega
end

end Go.Proofs.YtpgcghnlepnoiaaGreatDoor

/-
  What world.Load and zoo.Load make of any state, as plain data.
-/
namespace Go.Proofs.YtpgcghnlepnoiaaGreatDoor

/-- a state, as it is read -/
structure StM where
  gens : List Int
  rows : List RowM
  bonds : List (Hd × Hd)

/-- rows that are laid one by one: the error, and the beasts -/
def rowsLd (ls : List (Int × Bool)) : BF → List RowM → BF × Int
  | f, [] => (f, 0)
  | f, r :: l => if liveB ls r.h.1 r.h.2 = false then (f, 7) else if beastErr r.b ≠ 0 then (f, beastErr r.b) else rowsLd ls (updB f r.h.1 (some (r.h.2, r.b))) l
def loadWR (gens : List Int) (rows : List RowM) : Option (List (Int × Bool) × BF) × Int :=
  if 60 < rows.length then (none, 2) else match loadR gens (rows.map fun r => r.h.1) with
    | (none, n) => (none, n)
    | (some ls, _) => if (rowsLd ls (fun _ => none) rows).2 = 0 then (some (ls, (rowsLd ls (fun _ => none) rows).1), 0) else (none, (rowsLd ls (fun _ => none) rows).2)
theorem loadR_none {gens live : List Int} {n : Int} (h : loadR gens live = (none, n)) : n = 1 ∨ n = 2 ∨ n = 5 ∨ n = 6 := by
  unfold loadR at h
  split at h
  · injection h with _ h; omega
  · split at h
    · injection h with _ h; omega
    · split at h
      · injection h with _ h; omega
      · split at h
        · injection h with _ h; omega
        · split at h
          · injection h with _ h; omega
          · injection h with h; cases h
theorem loadR_some {gens live : List Int} {ls : List (Int × Bool)} {n : Int} (h : loadR gens live = (some ls, n)) :
    n = 0 ∧ gens.length ≤ 60 ∧ anyOf badGen gens = false ∧ anyOf (badIx gens.length) live = false ∧ markN (gens.map fun g => (g, false)) live = some ls ∧ hasSlot 1000000 true ls = false := by
  unfold loadR at h
  split at h
  · injection h with h; cases h
  · rename_i h1
    split at h
    · injection h with h; cases h
    · rename_i h2
      split at h
      · injection h with h; cases h
      · rename_i h3
        split at h
        · injection h with h; cases h
        · rename_i ls' h4
          split at h
          · injection h with h; cases h
          · rename_i h5
            injection h with h6 h7
            injection h6 with h6
            subst h6
            exact ⟨h7.symm, by omega, by simpa using h2, by simpa using h3, h4, by simpa using h5⟩
theorem beastErr_val (b : Beast) (h : beastErr b ≠ 0) : beastErr b = 1 ∨ beastErr b = 4 := by
  by_cases hs : isSetB b.k = true
  · by_cases hj : ∃ j, j < 8 ∧ valErr b j ≠ 0
    · have key : ∀ n, n ≤ 8 → (∃ j, j < n ∧ valErr b j ≠ 0) → ∃ j, j < 8 ∧ valErr b j ≠ 0 ∧ ∀ i, i < j → valErr b i = 0 := by
        intro n
        induction n with
        | zero => rintro _ ⟨j, h, _⟩; omega
        | succ n ih =>
          rintro hn ⟨j, h1, h2⟩
          by_cases hx : ∃ j, j < n ∧ valErr b j ≠ 0
          · exact ih (by omega) hx
          · have hjn : j = n := by
              apply Classical.byContradiction
              intro hne
              exact hx ⟨j, by omega, h2⟩
            subst hjn
            exact ⟨j, by omega, h2, fun i hi => Classical.byContradiction fun h => hx ⟨i, hi, h⟩⟩
      obtain ⟨j, h1, h2, h3⟩ := key 8 (Nat.le_refl _) hj
      rw [beastErr_at b j h1 hs h3 h2]
      unfold valErr at h2 ⊢
      split
      · right; rfl
      · rename_i h4
        rw [if_neg h4] at h2
        split
        · left; rfl
        · rename_i h5
          rw [if_neg h5] at h2
          exact absurd rfl h2
    · exact absurd (beastErr_none b hs fun i hi => Classical.byContradiction fun hne => hj ⟨i, hi, hne⟩) h
  · left
    unfold beastErr
    rw [if_neg hs]
/-- one row at a time -/
theorem rowsLd_snoc (ls : List (Int × Bool)) (r : RowM) : ∀ (l : List RowM) (f : BF), (rowsLd ls f l).2 = 0 → rowsLd ls f (l ++ [r]) =
    if liveB ls r.h.1 r.h.2 = false then ((rowsLd ls f l).1, 7) else if beastErr r.b ≠ 0 then ((rowsLd ls f l).1, beastErr r.b) else (updB (rowsLd ls f l).1 r.h.1 (some (r.h.2, r.b)), 0)
  | [], f, _ => by
    show rowsLd ls f [r] = _
    unfold rowsLd
    split
    · rfl
    · split
      · rfl
      · rfl
  | x :: l, f, h => by
    have e : rowsLd ls f ((x :: l) ++ [r]) = rowsLd ls f (x :: (l ++ [r])) := rfl
    rw [e]
    unfold rowsLd at h ⊢
    split at h
    · cases h
    · rename_i h1
      rw [if_neg h1, if_neg h1]
      split at h
      · rename_i h2; exact absurd h h2
      · rename_i h2
        rw [if_neg h2, if_neg h2]
        exact rowsLd_snoc ls r l _ h
theorem rowsLd_err (ls : List (Int × Bool)) (l' : List RowM) : ∀ (l : List RowM) (f : BF), (rowsLd ls f l).2 ≠ 0 → rowsLd ls f (l ++ l') = rowsLd ls f l
  | [], f, h => absurd rfl h
  | x :: l, f, h => by
    have e : rowsLd ls f ((x :: l) ++ l') = rowsLd ls f (x :: (l ++ l')) := rfl
    rw [e]
    unfold rowsLd at h ⊢
    split at h
    · rename_i h1; rw [if_pos h1, if_pos h1]
    · rename_i h1
      rw [if_neg h1, if_neg h1]
      split at h
      · rename_i h2; rw [if_pos h2, if_pos h2]
      · rename_i h2
        rw [if_neg h2, if_neg h2]
        exact rowsLd_err ls l' l _ h
theorem rowsLd_far (ls : List (Int × Bool)) (s : Int) : ∀ (l : List RowM) (f : BF), (∀ r ∈ l, r.h.1 ≠ s) → (rowsLd ls f l).1 s = f s
  | [], f, _ => rfl
  | x :: l, f, h => by
    unfold rowsLd
    split
    · rfl
    · split
      · rfl
      · rw [rowsLd_far ls s l _ fun r hr => h r (List.mem_cons_of_mem _ hr)]
        unfold updB
        rw [if_neg fun e => h x List.mem_cons_self e.symm]
theorem rowsLd_all (ls : List (Int × Bool)) : ∀ (l : List RowM) (f : BF), (rowsLd ls f l).2 = 0 → ∀ r ∈ l, liveB ls r.h.1 r.h.2 = true ∧ beastErr r.b = 0
  | [], _, _, _, hr => by cases hr
  | x :: l, f, h, r, hr => by
    unfold rowsLd at h
    split at h
    · cases h
    · rename_i h1
      split at h
      · rename_i h2; exact absurd h h2
      · rename_i h2
        rcases List.mem_cons.1 hr with rfl | hr
        · exact ⟨by simpa using h1, Classical.not_not.1 h2⟩
        · exact rowsLd_all ls l _ h r hr
theorem markN_nodup : ∀ (live : List Int) (ls ls' : List (Int × Bool)), markN ls live = some ls' → (∀ k ∈ live, 0 ≤ k ∧ k < ls.length) → live.Nodup ∧ ∀ k ∈ live, (ls.getD k.toNat (0, false)).2 = false
  | [], _, _, _, _ => ⟨List.nodup_nil, by simp⟩
  | k :: r, ls, ls', h, hb => by
    unfold markN at h
    split at h
    · cases h
    · rename_i h1
      have hk := hb k List.mem_cons_self
      obtain ⟨g1, g2⟩ := markN_nodup r _ _ h fun x hx => by
        have := hb x (List.mem_cons_of_mem _ hx)
        rw [List.length_set]; exact this
      refine ⟨List.nodup_cons.2 ⟨fun hm => ?_, g1⟩, fun x hx => ?_⟩
      · have := g2 k hm
        rw [List.getD_eq_getElem?_getD, List.getElem?_set_self (by omega)] at this
        simp at this
      · rcases List.mem_cons.1 hx with rfl | hx
        · simpa using h1
        · have h2 := g2 x hx
          by_cases e : k.toNat = x.toNat
          · rw [List.getD_eq_getElem?_getD, e, List.getElem?_set_self (by have := hb x (List.mem_cons_of_mem _ hx); omega)] at h2
            simp at h2
          · rw [List.getD_eq_getElem?_getD, List.getElem?_set_ne e, ← List.getD_eq_getElem?_getD] at h2
            exact h2
/-- the slots of rows that are loaded differ, and lie in bounds -/
theorem load_slots {gens : List Int} {rows : List RowM} {ls : List (Int × Bool)} {n : Int} (h : loadR gens (rows.map fun r => r.h.1) = (some ls, n)) :
    (rows.map fun r => r.h.1).Nodup ∧ (∀ r ∈ rows, 0 ≤ r.h.1 ∧ r.h.1 < 60) ∧ ls.length = gens.length := by
  obtain ⟨_, h1, h2, h3, h4, h5⟩ := loadR_some h
  have hb : ∀ k ∈ rows.map (fun r => r.h.1), 0 ≤ k ∧ k < (gens.length : Int) := fun k hk => badIx_no h3 hk
  refine ⟨(markN_nodup _ _ _ h4 fun k hk => ?_).1, fun r hr => ?_, ?_⟩
  · have := hb k hk
    rw [List.length_map]; exact this
  · have := hb r.h.1 (List.mem_map.2 ⟨r, hr, rfl⟩)
    omega
  · rw [markN_len _ _ _ h4, List.length_map]

/-! ### bonds -/
noncomputable def bondsZ (live : Hd → Bool) : Fam → List (Hd × Hd) → Option Fam × Int
  | B, [] => (some B, 0)
  | B, b :: l => if ¬ (live b.1 = true ∧ live b.2 = true) then (none, 7) else if (mget B b.1).isSome then (none, 6)
    else if (adoptR B b.1 b.2).2 ≠ 0 then (none, (adoptR B b.1 b.2).2) else bondsZ live (bondsOf (adoptR B b.1 b.2).1) l
noncomputable def loadZ (s : StM) : Option ZS × Int :=
  match loadWR s.gens s.rows with
  | (none, n) => (none, n)
  | (some (ls, f), _) => match bondsZ (fun h => liveB ls h.1 h.2) [] s.bonds with
    | (none, n) => (none, n)
    | (some B, _) => (some ⟨ls, f, B⟩, 0)
theorem bondsZ_snoc (live : Hd → Bool) (b : Hd × Hd) : ∀ (l : List (Hd × Hd)) (B B' : Fam) {n : Int}, bondsZ live B l = (some B', n) → bondsZ live B (l ++ [b]) = bondsZ live B' [b]
  | [], B, B', n, h => by
    unfold bondsZ at h
    injection h with h _
    injection h with h
    rw [List.nil_append, h]
  | x :: l, B, B', n, h => by
    rw [List.cons_append]
    rw [bondsZ] at h ⊢
    split at h
    · injection h with h; cases h
    · rename_i h1
      rw [if_neg h1]
      split at h
      · injection h with h; cases h
      · rename_i h2
        rw [if_neg h2]
        split at h
        · injection h with h; cases h
        · rename_i h3
          rw [if_neg h3]
          exact bondsZ_snoc live b l _ B' h
theorem bondsZ_err (live : Hd → Bool) (l' : List (Hd × Hd)) : ∀ (l : List (Hd × Hd)) (B : Fam) {n : Int}, bondsZ live B l = (none, n) → bondsZ live B (l ++ l') = (none, n)
  | [], B, n, h => by
    unfold bondsZ at h
    injection h with h
    cases h
  | x :: l, B, n, h => by
    rw [List.cons_append]
    rw [bondsZ] at h ⊢
    split at h
    · rename_i h1; rw [if_pos h1]; exact h
    · rename_i h1
      rw [if_neg h1]
      split at h
      · rename_i h2; rw [if_pos h2]; exact h
      · rename_i h2
        rw [if_neg h2]
        split at h
        · rename_i h3; rw [if_pos h3]; exact h
        · rename_i h3
          rw [if_neg h3]
          exact bondsZ_err live l' l _ h
theorem bondsZ_err_of {live : Hd → Bool} {L : List (Hd × Hd)} {B : Fam} {k : Nat} (hk : k < L.length) {n m : Int} (h : bondsZ live [] (L.take k) = (some B, m)) (he : bondsZ live B [L[k]] = (none, n)) : bondsZ live [] L = (none, n) := by
  rw [← List.take_append_drop (k + 1) L, List.take_succ_eq_append_getElem hk]
  exact bondsZ_err _ _ _ _ ((bondsZ_snoc _ _ _ _ _ h).trans he)

end Go.Proofs.YtpgcghnlepnoiaaGreatDoor

/-
  Lists of operations on a zoo, as plain data: all of them or none.
-/
namespace Go.Proofs.YtpgcghnlepnoiaaGreatDoor

/-- the handle that is meant: a slot below 0 is one that was spawned in the list -/
def meantH (sp : List Hd) (h : Hd) : Option Hd := if 0 ≤ h.1 then some h else if h.1 < -(sp.length : Int) then none else some (sp.getD (-h.1 - 1).toNat (0, 0))
def looksZ (sp : List Hd) (o : OpM) : Option OpM :=
  if o.d = 2 ∨ o.d = 3 ∨ o.d = 4 ∨ o.d = 6 then (meantH sp o.a).map fun a => { o with a := a }
  else if o.d = 5 then (meantH sp o.a).bind fun a => (meantH sp o.t).map fun t => { o with a := a, t := t }
  else some o
abbrev ZL := ZS × List Hd
noncomputable def errA (s : ZL) (o : OpM) : Int := ((looksZ s.2 o).map fun o => (doZ s.1 o).2.2).getD 5
noncomputable def nextA (s : ZL) (o : OpM) : ZL := ((doZ s.1 ((looksZ s.2 o).getD o)).1, if o.d = 1 then s.2 ++ [(doZ s.1 o).2.1] else s.2)
noncomputable def stepA (s : ZL) (o : OpM) : Option ZL := if errA s o = 0 then some (nextA s o) else none
noncomputable def runA : ZL → List OpM → Option ZL
  | s, [] => some s
  | s, o :: os => (stepA s o).bind fun s => runA s os
theorem runA_append (s : ZL) (a b : List OpM) : runA s (a ++ b) = (runA s a).bind fun s => runA s b := by
  induction a generalizing s with
  | nil => rfl
  | cons o a ih =>
    rw [List.cons_append, runA, runA]
    cases stepA s o with
    | none => rfl
    | some s => exact ih s
theorem runA_snoc {s s' : ZL} {os : List OpM} {k : Nat} (hk : k < os.length) (h : runA s (os.take k) = some s') : runA s (os.take (k + 1)) = stepA s' os[k] := by
  rw [List.take_succ_eq_append_getElem hk, runA_append, h, Option.bind_some, runA]
  cases stepA s' os[k] <;> rfl
theorem runA_stop {s s' : ZL} {os : List OpM} {k : Nat} (hk : k < os.length) (h : runA s (os.take k) = some s') (he : errA s' os[k] ≠ 0) : runA s os = none := by
  conv => lhs; rw [← List.take_append_drop (k + 1) os]
  rw [runA_append, runA_snoc hk h]
  unfold stepA
  rw [if_neg he]; rfl
theorem looks_same {sp : List Hd} {o o' : OpM} (h : looksZ sp o = some o') : o'.d = o.d ∧ o'.b = o.b ∧ o'.k = o.k ∧ o'.n = o.n := by
  unfold looksZ at h
  split at h
  · obtain ⟨a, ha, rfl⟩ := Option.map_eq_some_iff.1 h
    exact ⟨rfl, rfl, rfl, rfl⟩
  · split at h
    · obtain ⟨a, ha, h⟩ := Option.bind_eq_some_iff.1 h
      obtain ⟨t, ht, rfl⟩ := Option.map_eq_some_iff.1 h
      exact ⟨rfl, rfl, rfl, rfl⟩
    · injection h with h; rw [← h]; exact ⟨rfl, rfl, rfl, rfl⟩
theorem looks_one {sp : List Hd} {o : OpM} (h : o.d = 1) : looksZ sp o = some o := by
  unfold looksZ
  rw [if_neg (by omega), if_neg (by omega)]
theorem looks_plain {sp : List Hd} {o : OpM} (h1 : 0 ≤ o.a.1) (h2 : 0 ≤ o.t.1) : looksZ sp o = some o := by
  have e1 : meantH sp o.a = some o.a := by unfold meantH; rw [if_pos h1]
  have e2 : meantH sp o.t = some o.t := by unfold meantH; rw [if_pos h2]
  unfold looksZ
  rw [e1, e2]
  split
  · rfl
  · split <;> rfl
theorem nextA_ok {s : ZL} (h : ZOk s.1) {o : OpM} (hv : o.b.v.length = 8) : ZOk (nextA s o).1 := by
  unfold nextA
  refine h.do_ ?_
  cases e : looksZ s.2 o with
  | none => exact hv
  | some o' => rw [Option.getD_some, (looks_same e).2.1]; exact hv
theorem runA_ok {s s' : ZL} {os : List OpM} (h : ZOk s.1) (hv : ∀ o ∈ os, o.b.v.length = 8) (hr : runA s os = some s') : ZOk s'.1 := by
  induction os generalizing s with
  | nil => injection hr with hr; rw [← hr]; exact h
  | cons o os ih =>
    rw [runA] at hr
    obtain ⟨s1, h1, h2⟩ := Option.bind_eq_some_iff.1 hr
    unfold stepA at h1
    split at h1
    · injection h1 with h1
      rw [← h1] at h2
      exact ih (nextA_ok h (hv o (by simp))) (fun o ho => hv o (by simp [ho])) h2
    · cases h1
theorem nextA_len (s : ZL) (o : OpM) : (nextA s o).2.length ≤ s.2.length + 1 := by
  unfold nextA
  split <;> simp
theorem runA_len {s s' : ZL} {os : List OpM} (hr : runA s os = some s') : s'.2.length ≤ s.2.length + os.length := by
  induction os generalizing s with
  | nil => injection hr with hr; rw [← hr]; simp
  | cons o os ih =>
    rw [runA] at hr
    obtain ⟨s1, h1, h2⟩ := Option.bind_eq_some_iff.1 hr
    unfold stepA at h1
    split at h1
    · injection h1 with h1
      have := nextA_len s o
      rw [h1] at this
      have := ih h2
      rw [List.length_cons]; omega
    · cases h1

/-- what is meant where it may be -/
def meantT (sp : List Hd) (h : Hd) : Hd := if h.1 < 0 ∧ -(sp.length : Int) ≤ h.1 then sp.getD (-h.1 - 1).toNat (0, 0) else h
theorem meant_eq {sp : List Hd} {h h' : Hd} (e : meantH sp h = some h') : meantT sp h = h' := by
  unfold meantH at e
  unfold meantT
  split at e
  · rw [if_neg (by omega)]; injection e
  · split at e
    · cases e
    · rw [if_pos (by omega)]; injection e
def opT (sp : List Hd) (o : OpM) : OpM := if o.d = 1 then o else { o with a := meantT sp o.a, t := meantT sp o.t }
/-- what an operation does not look at does not matter -/
theorem do_looks {z : ZS} {sp : List Hd} {o o' : OpM} (h : looksZ sp o = some o') : doZ z (opT sp o) = doZ z o' := by
  unfold looksZ at h
  by_cases h1 : o.d = 2 ∨ o.d = 3 ∨ o.d = 4 ∨ o.d = 6
  · rw [if_pos h1] at h
    obtain ⟨a, ha, rfl⟩ := Option.map_eq_some_iff.1 h
    unfold opT
    rw [if_neg (by omega), meant_eq ha]
    rcases h1 with h1 | h1 | h1 | h1 <;> simp [doZ, h1]
  · rw [if_neg h1] at h
    by_cases h5 : o.d = 5
    · rw [if_pos h5] at h
      obtain ⟨a, ha, h⟩ := Option.bind_eq_some_iff.1 h
      obtain ⟨t, ht, rfl⟩ := Option.map_eq_some_iff.1 h
      unfold opT
      rw [if_neg (by omega), meant_eq ha, meant_eq ht]
    · rw [if_neg h5] at h
      injection h with h
      subst h
      unfold opT
      by_cases hd : o.d = 1
      · rw [if_pos hd]
      · rw [if_neg hd]
        unfold doZ
        have g2 : ¬ o.d = 2 := by omega
        have g3 : ¬ o.d = 3 := by omega
        have g4 : ¬ o.d = 4 := by omega
        have g6 : ¬ o.d = 6 := by omega
        rw [if_neg hd, if_neg hd, if_neg g2, if_neg g2, if_neg g3, if_neg g3, if_neg g4, if_neg g4, if_neg h5, if_neg h5, if_neg g6, if_neg g6]
/-- one step of the list is one operation with what is meant -/
theorem stepA_do {s s' : ZL} {o : OpM} (h : stepA s o = some s') : (doZ s.1 (opT s.2 o)).2.2 = 0 ∧ s'.1 = (doZ s.1 (opT s.2 o)).1 ∧ s'.2 = if o.d = 1 then s.2 ++ [(doZ s.1 (opT s.2 o)).2.1] else s.2 := by
  unfold stepA at h
  split at h
  · rename_i he
    injection h with h
    subst h
    unfold errA at he
    unfold nextA
    cases hl : looksZ s.2 o with
    | none => rw [hl] at he; cases he
    | some o' =>
      rw [hl] at he
      have e := do_looks (z := s.1) hl
      rw [Option.getD_some]
      refine ⟨by rw [e]; exact he, by rw [e], ?_⟩
      by_cases hd : o.d = 1
      · rw [if_pos hd, if_pos hd]
        have : opT s.2 o = o := by unfold opT; rw [if_pos hd]
        rw [this]
      · rw [if_neg hd, if_neg hd]
  · cases h
/-- with no handle below 0 -/
def Plain (o : OpM) : Prop := 0 ≤ o.a.1 ∧ 0 ≤ o.t.1
theorem stepA_plain {s : ZL} {o : OpM} (h : Plain o) : stepA s o = if (doZ s.1 o).2.2 = 0 then some ((doZ s.1 o).1, if o.d = 1 then s.2 ++ [(doZ s.1 o).2.1] else s.2) else none := by
  unfold stepA errA nextA
  rw [looks_plain h.1 h.2]; rfl
theorem runA_plain {os : List OpM} (h : ∀ o ∈ os, Plain o) : ∀ (z : ZS) (sp sp' : List Hd), (runA (z, sp) os).map (·.1) = (runA (z, sp') os).map (·.1) := by
  induction os with
  | nil => intro z sp sp'; rfl
  | cons o os ih =>
    intro z sp sp'
    rw [runA, runA, stepA_plain (h o (by simp)), stepA_plain (h o (by simp))]
    by_cases he : (doZ z o).2.2 = 0
    · rw [if_pos he, if_pos he, Option.bind_some, Option.bind_some]
      exact ih (fun o ho => h o (by simp [ho])) _ _ _
    · rw [if_neg he, if_neg he]
theorem runA_parts {z z' : ZS} {a b : List OpM} {sp : List Hd} (h : ∀ o ∈ a ++ b, Plain o) (hr : runA (z, []) (a ++ b) = some (z', sp)) :
    ∃ z1 sp1 sp2, runA (z, []) a = some (z1, sp1) ∧ runA (z1, []) b = some (z', sp2) := by
  rw [runA_append] at hr
  obtain ⟨⟨z1, sp1⟩, h1, h2⟩ := Option.bind_eq_some_iff.1 hr
  have h3 := runA_plain (fun o ho => h o (List.mem_append.2 (Or.inr ho))) z1 sp1 []
  rw [h2] at h3
  obtain ⟨⟨z2, sp2⟩, h4, h5⟩ := Option.map_eq_some_iff.1 h3.symm
  simp only at h5
  exact ⟨z1, sp1, sp2, h1, by rw [h4, h5]⟩

/-! ### states that look alike are one -/
theorem world_same {ls ls' : List (Int × Bool)} {f f' : BF} (h : WOk ls f) (h' : WOk ls' f') (hg : ls.map (·.1) = ls'.map (·.1)) (hr : allW ls f = allW ls' f') : ls = ls' ∧ f = f' := by
  have hf : f = f' := by
    funext s
    apply Option.ext
    rintro ⟨g, b⟩
    have h1 := mem_allW h (r := ⟨(s, g), b⟩)
    have h2 := mem_allW h' (r := ⟨(s, g), b⟩)
    rw [← h1, ← h2, hr]
  refine ⟨?_, hf⟩
  have hlen : ls.length = ls'.length := by have := congrArg List.length hg; simpa using this
  apply List.ext_getElem hlen
  intro i h1 h2
  have e1 : (ls[i]).1 = (ls'[i]).1 := by
    have := congrArg (·[i]?) hg
    simpa [h1, h2] using this
  have e2 : (ls[i]).2 = (ls'[i]).2 := by
    have hl : liveB ls i (ls[i]).1 = liveB ls' i (ls[i]).1 := by
      rw [Bool.eq_iff_iff, h.lv, h'.lv, hf]
    rw [liveB_iff h1, liveB_iff h2, sl, sl, getD_at h1, getD_at h2, ← e1] at hl
    simpa using hl
  exact Prod.ext e1 e2
theorem zoo_same {z z' : ZS} (h : ZOk z) (h' : ZOk z') (hg : z.gens = z'.gens) (hr : z.rows = z'.rows) (hb : z.B = z'.B) : z = z' := by
  obtain ⟨h1, h2⟩ := world_same h.w h'.w hg hr
  cases z; cases z'
  simp only at h1 h2 hb
  rw [h1, h2, hb]

end Go.Proofs.YtpgcghnlepnoiaaGreatDoor
