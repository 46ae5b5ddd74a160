/-
  Several texts in one (merged by a program of mine): WorldKills, WorldLoad, ZooState.
-/
import Derived.Test.YtpgcghnlepnoiaaGreatMP45
set_option linter.unusedVariables false
set_option linter.unusedSimpArgs false
set_option linter.unusedSectionVars false
/-
  The walk of the law WorldKills.
-/
namespace Go.Proofs.YtpgcghnlepnoiaaGreat
open Go.RowKit

theorem row_partW {w : World} {g o n : Nat} {xs : List Int} (h : row? w g o n = some (ints xs)) (a m : Nat) (ham : a + m ≤ n) : row? w g (o + a) m = some (ints ((xs.drop a).take m)) := by
  unfold row? at *
  split at h
  · split at h
    · rename_i hle
      injection h with h
      rw [if_pos (by omega)]
      congr 1
      have h2 : (ints xs).extract a (a + m) = ints ((xs.drop a).take m) := by
        unfold ints
        apply Array.ext'
        simp [List.map_drop, List.map_take, List.extract_eq_take_drop]
      rw [← h2, ← h, Array.extract_extract, Nat.min_eq_left (by omega), Nat.add_assoc]
    · cases h
  · cases h
section
variable {P : Program} {w : World}
theorem addr_add (g o j : Nat) : (⟨g, o, none⟩ : Addr).add j = ⟨g, o + j, none⟩ := by unfold Addr.add; split <;> simp_all
theorem own_cells {E : TypeId} {size n c g : Nat} {xs : List Value} (h : w.ownsRow 0 E size (.slice (some ⟨g, 0, none⟩) n c) n xs) (j : Nat) (y : Value) (hy : xs[j]? = some y) : w.cell? ⟨g, j, none⟩ = some y := by
  obtain ⟨hl, h | ⟨g', cap, cur, e, _, hg, hc1, hc2, hc3, hc4⟩⟩ := h
  · cases h.1
  · injection e with e1 e2 e3
    injection e1 with e1
    injection e1 with e1
    subst e1
    rw [cell_of_row w g j cur E (0, 0) hg, ← hy, ← hc4, List.getElem?_take, if_pos]
    · simp
    · have := (List.getElem?_eq_some_iff.1 hy).1; omega
theorem step_append_src {ops : Array Oper} {o : Oper} {a : Act} {K : Act → World → Prop} {Q : Exit → Act → World → Prop} {X : Prop} (hw : Region.wanted o (yielded ops a.tmps) = true) (s x : Operand) (t : TypeId) (ho : o.op = .call { callee := .builtin .append, args := #[s, x], argTypes := #[t, t] })
    (E : TypeId) (i : TypeInfo) (z : Value) (size bytes : Nat) (ht : P.underlying t = some (.slice E)) (hi : P.info? E = some i) (hz : i.zero = some z)
    (hsize : i.size = size) (hby : i.bytes = bytes) (hzs : z.cells.size = size) (hsz : 0 < size) {v : Value} {n m cap : Nat} {xs news : List Value} {src : Addr} (hs : a.eval s = v) (hx : a.eval x = .slice (some src) m cap) (hown : w.ownsRow 0 E size v n xs)
    (hl : news.length = m * size) (hsrc : ∀ j y, news[j]? = some y → w.cell? (src.add j) = some y) (h1 : ∀ x ∈ news, x.oneCell' = true) (h63 : n + m ≤ maxLen) (hbytes : (n + m) * bytes ≤ 140737488355328)
    (h : ∀ v' w', w'.ownsRow 0 E size v' (n + m) (xs ++ news) → w.grownBy w' v.ownBlock → (v'.ownBlock = v.ownBlock ∨ v'.ownBlock = some w.heap.size) → K (a.put o.dst v') w') : if Region.wanted o (yielded ops a.tmps) = true then Oper.wp P o a w K Q else X := by
  rw [if_pos hw]
  obtain ⟨v', w', hr, h2, h3, _, h5⟩ := run_append_own_at (P := P) w 0 t o.type E i z size bytes ht hi hz hsize hby hzs hsz v n xs hown src m cap news hl hsrc h1 h63 hbytes (Nat.zero_le _)
  unfold Oper.wp
  simp [execOp, ho, resolve, invoke, builtin, hs, hx, hr, Result.andThen]
  exact h v' w' h2 h3 h5
end
theorem flatR_len (rs : List RowM) : (rs.flatMap rowC).length = rs.length * 11 := by
  induction rs with
  | nil => rfl
  | cons r rs ih => rw [List.flatMap_cons, List.length_append, rowC_len, ih, List.length_cons]; omega
theorem flatR_take (rs : List RowM) (k j : Nat) (y : Value) (h : ((rs.take k).flatMap rowC)[j]? = some y) : (rs.flatMap rowC)[j]? = some y := by
  conv => lhs; rw [← List.take_append_drop k rs]
  rw [List.flatMap_append, List.getElem?_append_left (List.getElem?_eq_some_iff.1 h).1]
  exact h
theorem flatR_drop (rs : List RowM) (k j : Nat) (hk : k ≤ rs.length) (y : Value) (h : ((rs.drop k).flatMap rowC)[j]? = some y) : (rs.flatMap rowC)[k * 11 + j]? = some y := by
  have hl : ((rs.take k).flatMap rowC).length = k * 11 := by rw [flatR_len, List.length_take, Nat.min_eq_left hk]
  conv => lhs; rw [← List.take_append_drop k rs]
  rw [List.flatMap_append, List.getElem?_append_right (by omega), hl, Nat.add_sub_cancel_left]
  exact h
theorem rowC_one (rs : List RowM) : ∀ x ∈ rs.flatMap rowC, x.oneCell' = true := by
  intro x hx
  obtain ⟨r, _, hr⟩ := List.mem_flatMap.1 hx
  obtain ⟨y, _, rfl⟩ := List.mem_map.1 hr
  rfl
theorem take_gone {ls : List (Int × Bool)} {k : Nat} {g : Int} (hk : k < ls.length) (hg : (sl ls k).1 ≠ g) : k < (takeR ls).1.length ∧ (sl (takeR ls).1 k).1 ≠ g := by
  unfold takeR
  split
  · simp only [List.length_set]
    refine ⟨hk, ?_⟩
    rw [sl, List.getD_eq_getElem?_getD]
    by_cases e : ls.findIdx freeB = k
    · rw [List.getElem?_set, if_pos e, if_pos (by omega), e]
      exact hg
    · rw [List.getElem?_set_ne e, ← List.getD_eq_getElem?_getD]; exact hg
  · split
    · exact ⟨hk, hg⟩
    · simp only [List.length_append]
      refine ⟨by omega, ?_⟩
      rw [sl, List.getD_eq_getElem?_getD, List.getElem?_append_left hk, ← List.getD_eq_getElem?_getD]
      exact hg
theorem spawn_gone {ls : List (Int × Bool)} {f : BF} {b : Beast} {k : Nat} {g : Int} (hk : k < ls.length) (hg : (sl ls k).1 ≠ g) : liveB (spawnW ls f b).1.1 (k : Int) g = false := by
  have h : k < (spawnW ls f b).1.1.length ∧ (sl (spawnW ls f b).1.1 k).1 ≠ g := by
    unfold spawnW
    split
    · exact ⟨hk, hg⟩
    · split
      · exact take_gone hk hg
      · exact take_gone hk hg
  rw [liveB_iff h.1, decide_eq_false h.2]; rfl
theorem kill_spawn {ls : List (Int × Bool)} {f : BF} {b : Beast} {s g : Int} (hl : liveB ls s g = true) : liveB (spawnW (killW ls f (s, g)).1.1 (killW ls f (s, g)).1.2 b).1.1 s g = false := by
  obtain ⟨k, rfl, hk, _⟩ := live_true hl
  unfold killW
  rw [if_pos hl]
  simp only
  unfold freeR
  rw [if_pos hl]
  simp only [Int.toNat_natCast]
  refine spawn_gone (by rw [List.length_set]; exact hk) ?_
  rw [sl, List.getD_eq_getElem?_getD, List.getElem?_set, if_pos rfl, if_pos hk]
  simp only [Option.getD_some]
  omega

end Go.Proofs.YtpgcghnlepnoiaaGreat

/-
  The contract of world.Load at what a world has.
-/
namespace Go.Proofs.YtpgcghnlepnoiaaGreat
open Go.RowKit

/-- the beasts of the first j rows -/
noncomputable def fTo (f : BF) (rs : List RowM) (j : Nat) : BF := fun s => @ite _ (∃ i, ∃ h : i < rs.length, i < j ∧ rs[i].h.1 = s) (Classical.propDecidable _) (f s) none
theorem fTo_zero (f : BF) (rs : List RowM) : fTo f rs 0 = fun _ => none := by
  funext s
  unfold fTo
  rw [if_neg]
  rintro ⟨i, h, h1, _⟩
  omega
theorem fTo_succ {f : BF} {rs : List RowM} {j : Nat} (hj : j < rs.length) (hf : f rs[j].h.1 = some (rs[j].h.2, rs[j].b)) : fTo f rs (j + 1) = updB (fTo f rs j) rs[j].h.1 (some (rs[j].h.2, rs[j].b)) := by
  funext s
  unfold updB
  by_cases e : s = rs[j].h.1
  · rw [if_pos e]
    unfold fTo
    rw [if_pos ⟨j, hj, by omega, e.symm⟩, e, hf]
  · rw [if_neg e]
    unfold fTo
    by_cases h : ∃ i, ∃ h : i < rs.length, i < j ∧ rs[i].h.1 = s
    · obtain ⟨i, h1, h2, h3⟩ := h
      rw [if_pos ⟨i, h1, by omega, h3⟩, if_pos ⟨i, h1, h2, h3⟩]
    · rw [if_neg h, if_neg]
      rintro ⟨i, h1, h2, h3⟩
      by_cases ei : i = j
      · subst ei; exact e h3.symm
      · exact h ⟨i, h1, by omega, h3⟩
theorem fTo_all {ls : List (Int × Bool)} {f : BF} (h : WOk ls f) : fTo f (allW ls f) (allW ls f).length = f := by
  funext s
  unfold fTo
  cases hf : f s with
  | none => split <;> rfl
  | some x =>
    obtain ⟨g, b⟩ := x
    have hm : (⟨(s, g), b⟩ : RowM) ∈ allW ls f := (mem_allW h).2 hf
    obtain ⟨i, hi, hir⟩ := List.mem_iff_getElem.1 hm
    rw [if_pos ⟨i, hi, hi, by rw [hir]⟩]
theorem fTo_none {ls : List (Int × Bool)} {f : BF} {j : Nat} (hj : j < (allW ls f).length) : fTo f (allW ls f) j (allW ls f)[j].h.1 = none := by
  unfold fTo
  rw [if_neg]
  rintro ⟨i, h1, h2, h3⟩
  have := List.pairwise_iff_getElem.1 (all_sorted ls f) i j h1 hj h2
  unfold sLt at this
  change (allW ls f)[i].h.1 < (allW ls f)[j].h.1 at this
  omega
theorem all_handles {ls : List (Int × Bool)} {f : BF} (h : WOk ls f) : (allW ls f).map (·.h) = liveHs ls := by
  unfold allW
  rw [List.map_filterMap]
  have : ∀ x ∈ liveHs ls, (rowFW f x).map (·.h) = some x := fun x hx => by
    unfold rowFW
    rw [h.get (live_iff_mem.1 hx)]; rfl
  rw [fm_congr (g := some) this, List.filterMap_some]
theorem all_load {ls : List (Int × Bool)} {f : BF} (h : WOk ls f) : loadR (gensL ls) ((allW ls f).map fun r => r.h.1) = (some ls, 0) := by
  have : (allW ls f).map (fun r => r.h.1) = ((allW ls f).map (·.h)).map (·.1) := by rw [List.map_map]; rfl
  rw [this, all_handles h]
  exact load_back h.so
theorem int_partsW : (Tryz.prog.info? 3).map (fun i => (i.zero, i.size, i.bytes)) = some (some (.int .i64 0), 1, 8) := by kernel_rfl
section
variable {G : Nat → Prop} {w0 w : World} {l : List Assn} {ls : List (Int × Bool)} {f : BF}
set_option maxHeartbeats 1000000 in
set_option maxRecDepth 100000 in
theorem wload_in {gv rv : Value} (h : In G w0 (IntsA gv (gensL ls) :: RowsA rv (allW ls f) :: l) w) (hk : WOk ls f) :
    Calls Tryz.prog 65 #[gv, rv] w fun e w' => ∃ p, e = .returned (.tuple #[.pointer (some ⟨p, 0, none⟩), .int .i64 0]) ∧ In G w0 (WorldA p ls f :: IntsA gv (gensL ls) :: RowsA rv (allW ls f) :: l) w' := by
  have HLD := Lib.hid (all_load hk)
  have hr60 := allW_len hk
  have hg60 := hk.so.1
  have HFA := Lib.hid (fTo_all hk)
  have HFN : Hid (∀ j (hj : j < (allW ls f).length), fTo f (allW ls f) j (allW ls f)[j].h.1 = none) := fun j hj => fTo_none hj
  have HROK : Hid (∀ r ∈ allW ls f, r.b.v.length = 8 ∧ beastErr r.b = 0 ∧ liveB ls r.h.1 r.h.2 = true ∧ f r.h.1 = some (r.h.2, r.b)) := fun r hr => allW_ok hk hr
  have HSL : Hid (∀ r ∈ allW ls f, 0 ≤ r.h.1 ∧ r.h.1 < 60) := fun r hr => by
    obtain ⟨s, e, hs, _⟩ := allW_slot hk hr
    omega
  have HI0 := Lib.hid h
  obtain ⟨gA, gc, rfl, _⟩ := h.intsAt
  obtain ⟨rA, rc, rfl, hrc1, hrc2, _⟩ := h.swap.rowsAt
  rw [gensL_len] at HI0 ⊢
  clear h hk
  generalize allW ls f = rs at *
  have hri : (rs.length : Int) ≤ 60 := Int.ofNat_le.2 hr60
  obtain ⟨i0, hi0, hz0, hz1, hz2⟩ := info_parts int_partsW
  go_enter Tryz.func65, Tryz.ntmps65
  go_wp2_with fail
  have HI1 : Hid (In G w0 (IntsA (.slice none 0 0) (((rs.take 0).map fun r => r.h.1)) :: IntsA (.slice gA ls.length gc) (gensL ls) :: RowsA (.slice rA rs.length rc) rs :: l) w) := HI0.out.nilRow _ _
  clear HI0
  go_loopw [20, 6] (fun i v w' => ∃ j : Nat, j ≤ rs.length ∧ i = .int .i64 j ∧ In G w0 (IntsA v (((rs.take j).map fun r => r.h.1)) :: IntsA (.slice gA ls.length gc) (gensL ls) :: RowsA (.slice rA rs.length rc) rs :: l) w') (fun i _ _ => rs.length - (intOf i).toNat)
  case atStart => exact ⟨0, Nat.zero_le _, rfl, HI1.out⟩
  case round =>
    clear HI1
    obtain ⟨j, hj, rfl, hI⟩ := hrel
    have HI := Lib.hid hI
    clear hI
    by_cases hlt : j < rs.length
    · have hji : (j : Int) < rs.length := by omega
      obtain ⟨h8, _⟩ := HROK.out _ (List.getElem_mem hlt)
      obtain ⟨g, rfl, q1⟩ := rowsAt_get HI.out.third hlt h8
      have hl11 : (rs[j]).list.length = 11 := by simp [RowM.list, Beast.list, h8]
      have HST : Hid ((rs.take (j + 1)).map (fun r => r.h.1) = (rs.take j).map (fun r => r.h.1) ++ [rs[j].h.1]) := by
        unfold Hid; rw [List.take_succ_eq_append_getElem hlt, List.map_append]; rfl
      have hcl : ((rs.take j).map fun r => r.h.1).length ≤ 60 := by rw [List.length_map, List.length_take]; omega
      have HC0 : Hid ((ints (RowM.list rs[j]))[0]? = some (.int .i64 rs[j].h.1)) := rfl
      generalize rs[j] = r at *
      generalize (rs.take j).map (fun r => r.h.1) = cur at *
      go_upto_region 7 with (fail)
      refine wp_abs (In G w0 (Box wr.heap.size 57 (ints r.list) :: IntsA u6 cur :: IntsA (.slice gA ls.length gc) (gensL ls) :: RowsA (.slice (some ⟨g, 0, none⟩) rs.length rc) rs :: l)) (HI.out.struct 57 [0, 0, 0, 0, 0, 0, 0, 0, 0, 0, 0] _ hl11) ?_
      generalize wr.heap.size = rb
      intro w2 hI2
      have q2 : w2.cell? ⟨rb, 0, none⟩ = some (.int .i64 r.h.1) := (hI2.blk.cell 0).trans HC0.out
      have HI2 := Lib.hid hI2.drop
      have HOW := Lib.hid hI2.drop.rowAt
      generalize r.h.1 = s at *
      clear hI2 q1 HI
      go_wp2_with (at_builtin; go_loud (refine wpList_append1_at rfl _ _ _ rfl 0 3 i0 _ 1 8 Tryz.underlying44 hi0 hz0 hz1 hz2 rfl (by decide) _ cur.length _ rfl HOW.out [.int .i64 s] rfl rfl (by simp [Value.oneCell']) (by unfold maxLen; omega) (by omega) (Nat.zero_le _) ?_))
      intro v' w3 hown hg hat
      have hI3 := In.append1 HI2.out hown hg hat
      have HI3 : Hid (In G w0 (IntsA v' (cur ++ [s]) :: IntsA (.slice gA ls.length gc) (gensL ls) :: RowsA (.slice (some ⟨g, 0, none⟩) rs.length rc) rs :: l) w3) := by
        unfold IntsA
        rw [List.length_append, List.map_append]
        exact hI3
      clear hown hg hat hI3 q2 HI2 HOW
      go_wp2_with fail
      go_roundw
      case rel => exact ⟨j + 1, by omega, by go_num, by rw [HST.out]; exact HI3.out⟩
      case measure => simp [intOf]; omega
    · have hjm : j = rs.length := by omega
      subst hjm
      rw [List.take_length] at HI
      obtain ⟨lA, lc, rfl, hlr⟩ := HI.out.intsAt
      obtain ⟨gA', gc', e0, hgr⟩ := HI.out.swap.intsAt
      rw [gensL_len] at e0
      injection e0 with e1 e2 e3
      subst e1; subst e3
      have hll : (rs.map fun r => r.h.1).length ≤ maxLen := by rw [List.length_map]; unfold maxLen; omega
      have hgl : (gensL ls).length ≤ maxLen := by rw [gensL_len]; unfold maxLen; omega
      have HSL2 := Lib.hid (load_any gA lA gc lc (gensL ls) (rs.map fun r => r.h.1) wr hgr hlr hgl hll)
      rw [HLD.out, gensL_len, List.length_map] at HSL2
      clear hgr hlr hll hgl e2
      go_wp2_with fail
      refine HSL2.out.mono ?_
      rintro e w2 ⟨hb2, p1, rfl, hs1⟩
      have HI2 : Hid (In G w0 (SlotsA p1 ls :: IntsA (.slice gA ls.length gc) (gensL ls) :: RowsA (.slice rA rs.length rc) rs :: l) w2) := HI.out.drop.new (A := SlotsA p1 ls) hb2 hs1
      clear hb2 hs1 HSL2 HI
      go_wp2_with fail
      refine (wnew_in HI2.out).mono ?_
      rintro e w3 ⟨p, rfl, hI3⟩
      obtain ⟨sp, tb, pb, T, hT, hI4⟩ := hI3.openWorld
      have c1 : w3.cell? ⟨p, 0, none⟩ = some (.pointer (some ⟨sp, 0, none⟩)) := hI4.blk.cell 0
      have c2 : w3.frozen? ⟨p, 0, none⟩ = false := hI4.blk.frozen _
      have HSET : Hid (∀ W, W = w3.setCell ⟨p, 0, none⟩ (.pointer (some ⟨p1, 0, none⟩)) → In G w0 (WorldS p p1 ls (fun _ => none) :: IntsA (.slice gA ls.length gc) (gensL ls) :: RowsA (.slice rA rs.length rc) rs :: l) W) := fun W e => by
        rw [e]
        have h1 := In.set hI4 0 (.pointer (some ⟨p1, 0, none⟩))
        have h2 : In G w0 (Box p 72 #[.pointer (some ⟨p1, 0, none⟩), .map (some tb), .map (some pb)] :: SlotsA p1 ls :: PtrMap tb (T.ks.map fun K => (K, T.pt K)) :: PlaceMap pb T.ps :: ((SlotsA sp [] :: IntsA (.slice gA ls.length gc) (gensL ls) :: RowsA (.slice rA rs.length rc) rs :: l) ++ T.ks.map (tblOf T))) (w3.setCell ⟨p, 0, none⟩ (.pointer (some ⟨p1, 0, none⟩))) := h1.reorder 5 [0, 4, 2, 3, 1] rfl (by simp)
        exact (In.shutWorldS hT h2).swap.drop
      clear hI3 hI4 hT HI2
      go_upto_region 14 with (fail)
      refine wp_abs (In G w0 (WorldS p p1 ls (fTo f rs 0) :: IntsA (.slice gA ls.length gc) (gensL ls) :: RowsA (.slice rA rs.length rc) rs :: l)) (by rw [fTo_zero]; exact HSET.out _ rfl) ?_
      clear c1 c2 HSET
      intro w4 hI4
      have HI4 := Lib.hid hI4
      clear hI4
      go_wp2_with fail
      go_loopw [47] (fun i w' => ∃ j : Nat, j ≤ rs.length ∧ i = .int .i64 j ∧ In G w0 (WorldS p p1 ls (fTo f rs j) :: IntsA (.slice gA ls.length gc) (gensL ls) :: RowsA (.slice rA rs.length rc) rs :: l) w') (fun i _ => rs.length - (intOf i).toNat)
      case atStart => exact ⟨0, Nat.zero_le _, rfl, HI4.out⟩
      case round =>
        clear HI4
        obtain ⟨j, hj, rfl, hI⟩ := hrel
        have HI := Lib.hid hI
        clear hI
        by_cases hlt : j < rs.length
        · have hji : (j : Int) < rs.length := by omega
          obtain ⟨h8, hbe, hlv, hfr⟩ := HROK.out _ (List.getElem_mem hlt)
          have hsl := HSL.out _ (List.getElem_mem hlt)
          obtain ⟨g, rfl, q1⟩ := rowsAt_get HI.out.third hlt h8
          have hfn := HFN.out j hlt
          have HST := Lib.hid (fTo_succ hlt hfr)
          clear hfr
          generalize rs[j] = r at *
          generalize fTo f rs j = fj at *
          obtain ⟨⟨s, gen⟩, b⟩ := r
          simp only at h8 hbe hlv hsl hfn HST
          have hb9 : b.list.length = 9 := by simp [Beast.list, h8]
          have hl11 : (RowM.list ⟨(s, gen), b⟩).length = 11 := by simp [RowM.list, Beast.list, h8]
          have HFN2 := Lib.hid hfn
          have HOK : Hid (beastErr b = 0 ∧ b.v.length = 8 ∧ 0 ≤ s ∧ s < 60) := ⟨hbe, h8, hsl.1, hsl.2⟩
          have HLV := Lib.hid hlv
          have HBE := Lib.hid hbe
          clear hfn hlv hbe hsl
          go_upto_region 17 with (fail)
          refine wp_abs (In G w0 (Box wr.heap.size 57 (ints (RowM.list ⟨(s, gen), b⟩)) :: WorldS p p1 ls fj :: IntsA (.slice gA ls.length gc) (gensL ls) :: RowsA (.slice (some ⟨g, 0, none⟩) rs.length rc) rs :: l)) (HI.out.struct 57 [0, 0, 0, 0, 0, 0, 0, 0, 0, 0, 0] _ hl11) ?_
          generalize wr.heap.size = rb
          intro w5 hI5
          have HRB : Hid (∀ W, In G w0 (Box rb 57 (ints (RowM.list ⟨(s, gen), b⟩)) :: WorldS p p1 ls fj :: IntsA (.slice gA ls.length gc) (gensL ls) :: RowsA (.slice (some ⟨g, 0, none⟩) rs.length rc) rs :: l) W → row? W rb 0 2 = some (ints [s, gen]) ∧ row? W rb 2 9 = some (ints b.list)) := fun W hW => by
            refine ⟨by rw [hW.blk.row_ints 0 2 (by omega)]; rfl, ?_⟩
            rw [hW.blk.row_ints 2 9 (by omega)]
            show some (ints (b.list.take 9)) = _
            rw [List.take_of_length_le (by omega)]
          obtain ⟨q2, q3⟩ := HRB.out _ hI5
          obtain ⟨tb', pb', T', hT', hI6⟩ := hI5.swap.openWorldS
          obtain ⟨F1, hS⟩ := hI6.swap.head
          have HL := Lib.hid (live_any p1 ls F1 s gen w5 hS)
          rw [HLV.out] at HL
          have HI5 := Lib.hid hI5
          clear hI5 hI6 hS hT' q1 HI
          go_wp2_with fail
          refine HL.out.mono ?_
          rintro e w6 ⟨rfl, hb6⟩
          have HI6 := Lib.hid (HI5.out.below hb6)
          obtain ⟨q4, q5⟩ := HRB.out _ HI6.out
          clear hb6 HL HI5 q2 q3
          go_wp2_with fail
          refine (checkBeast_any b h8 w6).mono ?_
          rintro e w7 ⟨rfl, hb7⟩
          rw [HBE.out]
          have HI7 := Lib.hid (HI6.out.below hb7)
          obtain ⟨q6, q7⟩ := HRB.out _ HI7.out
          clear hb7 HI6 q4 q5
          go_wp2_with fail
          refine (layS_in HI7.out.swap s gen b HFN2.out HOK.out).mono ?_
          rintro e w8 ⟨rfl, hI8⟩
          rw [← HST.out] at hI8
          have HI8 := Lib.hid hI8.swap.drop
          clear hI8 HI7 q6 q7
          go_wp2_with fail
          go_roundw
          case rel => exact ⟨j + 1, by omega, by go_num, HI8.out⟩
          case measure => simp [intOf]; omega
        · have hjm : j = rs.length := by omega
          subst hjm
          rw [HFA.out] at HI
          have HI9 := Lib.hid HI.out.worldOf
          clear HI
          go_wp2_with fail
          go_ret2
          exact ⟨p, rfl, HI9.out⟩
end

end Go.Proofs.YtpgcghnlepnoiaaGreat

/-
  The contract of zoo.State.
-/
namespace Go.Proofs.YtpgcghnlepnoiaaGreat
open Go.RowKit

section
variable {G : Nat → Prop} {w0 w : World} {l : List Assn} {p : Nat} {z : ZS}
set_option maxHeartbeats 4000000 in
set_option maxRecDepth 100000 in
theorem zstate_in (h : In G w0 (ZooA p z :: l) w) (hk : ZOk z) :
    Calls Tryz.prog 25 #[ptr p] w fun e w' => ∃ gv rv bv, e = .returned (.agg #[gv, rv, bv]) ∧ In G w0 (IntsA gv (gensL z.ls) :: RowsA rv z.rows :: RowB bv z.B :: ZooA p z :: l) w' := by
  have H0 := Lib.hid h
  have HK := Lib.hid hk
  clear h hk
  go_enter Tryz.func25, Tryz.ntmps25
  go_upto_region 1 with (fail)
  refine wp_abs (In G w0 (ZooA p z :: Box w.heap.size 48 #[.slice none 0 0, .slice none 0 0, .slice none 0 0] :: l)) (H0.out.alloc 48 #[.slice none 0 0, .slice none 0 0, .slice none 0 0]).swap ?_
  generalize w.heap.size = sb
  intro w1 hI1
  obtain ⟨wp, fp, m, hm, hf, ha, hI2⟩ := hI1.openZoo
  obtain ⟨sp, hI3⟩ := hI2.swap.worldS
  have c0 : w1.cell? ⟨p, 0, none⟩ = some (ptr wp) := hI2.blk.cell 0
  have HM := Lib.hid hm
  have hml : m.length ≤ 1099511627776 := by have := bonds_len m; have := HK.out.len; rw [hm] at *; omega
  have HML := Lib.hid hml
  have HI3 := Lib.hid hI3
  clear hI1 hI2 hI3 hm hf ha H0 hml
  have HR := Lib.hid (rowsS_in HI3.out HK.out.w zeroQ)
  rw [zeroQ_err, if_pos rfl, rows_all matchZero, zeroQ_list] at HR
  go_wp2_with fail
  refine HR.out.mono ?_
  rintro e w2 ⟨rv, rfl, hI⟩
  obtain ⟨A3, c3, rfl, _, _, _⟩ := own_form hI.rowAt
  have HF : Hid (∀ {W : World} {L : List Assn}, In G w0 (WorldS wp sp z.ls z.f :: zBox p wp fp :: FamA fp m :: Box sb 48 #[.slice none 0 0, .slice none 0 0, .slice none 0 0] :: L) W → W.cell? ⟨p, 0, none⟩ = some (ptr wp) ∧ W.cell? ⟨p, 1, none⟩ = some (ptr fp) ∧ W.cell? ⟨wp, 0, none⟩ = some (ptr sp) ∧ fits W sb 0 3 = true) := fun {W L} h =>
    ⟨h.swap.blk.cell 0, h.swap.blk.cell 1, h.slotPtr, h.fourth.blk.fits 0 3 (by simp)⟩
  have HI4 : Hid (In G w0 (WorldS wp sp z.ls z.f :: zBox p wp fp :: FamA fp m :: Box sb 48 #[.slice none 0 0, .slice none 0 0, .slice none 0 0] :: RowsA (.slice A3 z.rows.length c3) z.rows :: l) w2) := hI.to5
  obtain ⟨s1, s2, s3, s4⟩ := HF.out HI4.out
  have HNE : Hid (p ≠ sb ∧ wp ≠ sb) := by
    refine ⟨HI4.out.drop.swap.drop.apart, ?_⟩
    obtain ⟨tb, pb, T, hT, hI5⟩ := HI4.out.openWorldS
    simp only [List.cons_append] at hI5
    exact hI5.swap.drop.swap.drop.swap.drop.swap.drop.swap.drop.apart
  clear hI HR HI3 c0
  have hl60 := Lib.hid HK.out.w.so.1
  go_upto_region 2 with (fail)
  go_region_held3 (fun W => W.cell? ⟨p, 0, none⟩ = some (ptr wp) ∧ W.cell? ⟨p, 1, none⟩ = some (ptr fp) ∧ W.cell? ⟨wp, 0, none⟩ = some (ptr sp) ∧ fits W sb 0 3 = true)
    (first | (refine ⟨?_, ?_, ?_, ?_⟩ <;> assumption) | (refine ⟨cell_farV HNE.out.1 ?_, cell_farV HNE.out.1 ?_, cell_farV HNE.out.2 ?_, ?_⟩; all_goals first | assumption | exact fits_againV (by assumption) rfl))
    (first
      | (go_at_call 49; refine (gensS_in HIB.out hl60.out).mono ?_; rintro e w5 ⟨A5, c5, rfl, hI5⟩; have hI5 := hI5.to5; obtain ⟨t1, t2, t3, t4⟩ := HF.out hI5; have HIZ := Lib.hid hI5; clear hI5)
      | (go_at_call 50; refine (fbonds_in HIG.out HML.out).mono ?_; rintro e w5 ⟨bv, rfl, hI5⟩; rw [HM.out] at hI5; obtain ⟨A6, c6, rfl, _, _, _⟩ := own_form hI5.rowAt; have hI5 := hI5.to5.to3; obtain ⟨t1, t2, t3, t4⟩ := HF.out hI5; have HIZ := Lib.hid (hI5.reorder 6 [0, 1, 2, 3, 5, 4] rfl (by simp)); clear hI5)
      | (go_at_call 49; refine (gensS_in HI4.out.drew hl60.out).mono ?_; rintro e w4 ⟨A4, c4, rfl, hI5⟩; have hI5 := hI5.to5; obtain ⟨u1, u2, u3, u4⟩ := HF.out hI5; have HIG := Lib.hid hI5.third; clear hI5)
      | (go_at_call 50; refine (fbonds_in HI4.out.drew.third HML.out).mono ?_; rintro e w4 ⟨bv, rfl, hI5⟩; rw [HM.out] at hI5; obtain ⟨A6, c6, rfl, _, _, _⟩ := own_form hI5.rowAt; have hI5 := hI5.to5.to3; obtain ⟨u1, u2, u3, u4⟩ := HF.out hI5; have HIB := Lib.hid hI5; clear hI5))
  all_goals
    have HE := fun gv bv => In.putV (In.fourth HIZ.out) [gv, .slice A3 z.rows.length c3, bv] rfl
    go_wp2_with fail
    refine bodyPost_row rfl sb 48 _ _ rfl (HE _ _).blk Tryz.underlying48 rfl state_info rfl ?_
    exact ⟨_, _, _, rfl, (In.shutZoo HM.out (HE _ _).drop.worldOf.swap).reorder 4 [1, 3, 2, 0] rfl (by simp)⟩
end

end Go.Proofs.YtpgcghnlepnoiaaGreat
