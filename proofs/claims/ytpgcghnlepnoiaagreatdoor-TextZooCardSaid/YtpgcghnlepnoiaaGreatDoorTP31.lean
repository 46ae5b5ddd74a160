/-
  Several texts in one (merged by a program of mine): WorldRows, WorldMade, WorldUse, WorldPuts, WorldRowsS, WorldDrops.
-/
import Derived.Test.YtpgcghnlepnoiaaGreatDoorTP30
import Derived.Deep.RegionHeld3
set_option linter.unusedVariables false
set_option linter.unusedSimpArgs false
set_option linter.unusedSectionVars false
/-
  The contract of world.Rows.
-/
namespace Go.Proofs.YtpgcghnlepnoiaaGreatDoor
open Go.RowKit Go.Sort

theorem flat_le {α : Type} (rw : Int → List α) : ∀ zs : List Int, (∀ K ∈ zs, (rw K).length ≤ 60) → (zs.flatMap rw).length ≤ 60 * zs.length
  | [], _ => by simp
  | K :: zs, h => by
    rw [List.flatMap_cons, List.length_append, List.length_cons]
    have h1 := h K (by simp)
    have h2 := flat_le rw zs fun K hK => h K (by simp [hK])
    omega
theorem ks_len {T : WT} (hn : T.ks.Nodup) (hk : ∀ K ∈ T.ks, 0 ≤ K ∧ K ≤ 255) : T.ks.length ≤ 256 := by
  have hsub : ∀ x ∈ T.ks, x ∈ (List.range 256).map (fun i : Nat => (i : Int)) := fun x hx => by
    have := hk x hx
    exact List.mem_map.2 ⟨x.toNat, List.mem_range.2 (by omega), by omega⟩
  have := nodup_le hn hsub
  simpa using this
theorem mkeys_pt (T : WT) : mkeys (T.ks.map fun K => (K, T.pt K)) = T.ks := by
  unfold mkeys
  rw [List.map_map]
  exact List.map_id _
def matchK (q : Query) (ks : List Int) (rw : Int → List RowM) (j : Nat) : List RowM := ((ks.take j).filter fun K => matchQ K q).flatMap rw
theorem matchK_succ (q : Query) (ks : List Int) (rw : Int → List RowM) (j : Nat) (h : j < ks.length) : matchK q ks rw (j + 1) = if matchQ ks[j] q = true then matchK q ks rw j ++ rw ks[j] else matchK q ks rw j := by
  unfold matchK
  rw [List.take_succ_eq_append_getElem h, List.filter_append, List.flatMap_append]
  by_cases hm : matchQ ks[j] q = true
  · rw [if_pos hm]; simp [hm]
  · rw [if_neg hm]; simp [hm]
theorem rowE_zero (r : RowM) : (rowE r)[0]? = some r.h.1 := rfl

def cmpR (a b : RowM) : Int := cmpI a.h.1 b.h.1
theorem swoR : SWO (ltOf cmpR) where
  irrefl x := by unfold ltOf cmpR; simp [cmpI_neg]
  trans x y z h1 h2 := by
    unfold ltOf cmpR at *
    simp only [cmpI_neg, decide_eq_true_eq] at *
    omega
  ntrans x y z h1 h2 := by
    unfold ltOf cmpR at *
    simp only [cmpI_neg, decide_eq_false_iff_not] at *
    omega
instance : Inhabited RowM := ⟨zeroRow⟩
theorem In.unpickT {G : Nat → Prop} {w0 w : World} {T : WT} {X : List Assn} {K : Int} (hK : K ∈ T.ks) (h : In G w0 (Tbl (T.pt K) K (T.rw K) :: (X ++ (T.ks.erase K).map (tblOf T))) w) : In G w0 (X ++ T.ks.map (tblOf T)) w :=
  h.perm ((List.Perm.append_left X ((List.perm_cons_erase hK).map (tblOf T))).trans List.perm_middle).symm
set_option maxRecDepth 100000 in
theorem rows1_any (x y : RowM) (w : World) : Calls Tryz.prog 68 #[.agg (ints (rowE x)), .agg (ints (rowE y))] w fun e w' => e = .returned (.int .i64 (cmpR x y)) ∧ ∃ q os, w' = Sort.grow (w.drewN q) os := by
  have HX : Hid ((ints (rowE x))[0]? = some (.int .i64 x.h.1)) := rfl
  have HY : Hid ((ints (rowE y))[0]? = some (.int .i64 y.h.1)) := rfl
  have HC : Hid (cmpR x y = cmpI x.h.1 y.h.1) := rfl
  generalize cmpR x y = cr at *
  generalize x.h.1 = x0 at *
  generalize y.h.1 = y0 at *
  generalize rowE x = xs at *
  generalize rowE y = ys at *
  go_enter Tryz.func68, Tryz.ntmps68
  go_upto_region 1 with (fail)
  have k1 : ((w.alloc (.cells (ints xs) 51)).alloc (.cells (ints ys) 51)).cell? ⟨w.heap.size, 0, none⟩ = some (.int .i64 x0) := (((Blk.new w 51 (ints xs)).alloc _).cell 0).trans HX.out
  have k2 : ((w.alloc (.cells (ints xs) 51)).alloc (.cells (ints ys) 51)).cell? ⟨w.heap.size + 1, 0, none⟩ = some (.int .i64 y0) := by
    have := Blk.new (w.alloc (.cells (ints xs) 51)) 51 (ints ys)
    rw [World.size_alloc] at this
    exact (this.cell 0).trans HY.out
  have HW : Hid (((w.alloc (.cells (ints xs) 51)).alloc (.cells (ints ys) 51)) = Sort.grow w #[.cells (ints xs) 51, .cells (ints ys) 51]) := by
    unfold Hid; rw [Sort.alloc_eq_grow, Sort.alloc_eq_grow, Sort.grow_grow]; rfl
  change Code.wp _ _ _ _ ((w.alloc (.cells (ints xs) 51)).alloc (.cells (ints ys) 51))
  generalize ((w.alloc (.cells (ints xs) 51)).alloc (.cells (ints ys) 51)) = w2 at *
  clear HX HY
  go_wp2_with fail
  refine (cmpInt_any x0 y0 w2).mono ?_
  rintro e w3 ⟨rfl, rfl⟩
  go_wp2_with fail
  go_ret
  refine ⟨ret_int HC.out.symm, 0, #[.cells (ints xs) 51, .cells (ints ys) 51], ?_⟩
  rw [HW.out]
  rfl
section
variable {G : Nat → Prop} {w0 w : World} {l : List Assn}
theorem sortR_in {v : Value} {xs : List RowM} (h : In G w0 (RowsA v xs :: l) w) (hl : xs.length ≤ 1099511627776) :
    Calls Tryz.prog 67 #[v, .func (.func 68) #[] #[]] w fun e w' => e = .returned (.tuple #[]) ∧ ∃ ys : List RowM, ys.Perm xs ∧ (ys.Pairwise fun a b => ¬ b.h.1 < a.h.1) ∧ In G w0 (RowsA v ys :: l) w' := by
  have h1 : ∀ x, ∀ u ∈ rowC x, u.oneCell' = true := fun x u hu => by obtain ⟨y, _, rfl⟩ := List.mem_map.1 hu; rfl
  have h2 : ∀ blk off size w, CmpLays Tryz.prog 68 #[] rowC 11 cmpR blk off size w := fun blk off size w m os dk _ x y => rows1_any x y (sortWorldK rowC 11 w blk off m dk os)
  have h3 : ∀ args w, (callFunc 68 args).run Tryz.prog w = .ok (.enter 68 args) w := enters_of Tryz.func68 (by kernel_rfl) rfl
  have hcon := sort_in (ρ := sortRow_ren) (enc := rowC) sortRow_lay Tryz.isAgg51 Tryz.sizeOf51 rowC_len h1 cmpR swoR 68 h3 h2 51 h (by omega)
  change Calls Tryz.prog 67 _ _ _ at hcon
  refine hcon.mono ?_
  rintro e w' ⟨rfl, ys, hp, hs, hI⟩
  exact ⟨rfl, ys, hp, hs.imp fun {a b} h hlt => by unfold cmpR at h; rw [decide_eq_false_iff_not, cmpI_neg] at h; exact h hlt, hI⟩
end
section
variable {G : Nat → Prop} {w0 w : World} {l : List Assn} {p : Nat} {ls : List (Int × Bool)} {f : BF}
set_option maxHeartbeats 8000000 in
set_option maxRecDepth 100000 in
theorem rows_in (h : In G w0 (WorldA p ls f :: l) w) (hk : WOk ls f) (q : Query) :
    Calls Tryz.prog 37 #[.pointer (some ⟨p, 0, none⟩), .agg (ints q.list)] w fun e w' => ∃ v, e = .returned (.tuple #[v, .int .i64 (queryErr q)]) ∧ In G w0 (RowsA v (if queryErr q = 0 then rowsW ls f q else []) :: WorldA p ls f :: l) w' := by
  have HI0 := Lib.hid h
  have HK := Lib.hid hk
  clear h hk
  obtain ⟨qe, hqe⟩ : ∃ x, queryErr q = x := ⟨_, rfl⟩
  rw [hqe]
  have HQE := Lib.hid hqe
  clear hqe
  go_enter Tryz.func37, Tryz.ntmps37
  go_upto_region 1 with (fail)
  refine wp_abs (In G w0 (WorldA p ls f :: Box w.heap.size 93 (ints q.list) :: l)) ((HI0.out.alloc 93 (ints q.list)).swap) ?_
  generalize w.heap.size = qb
  intro w1 hI1
  have q1 : row? w1 qb 0 3 = some (ints q.list) := hI1.swap.blk.row_all rfl
  have HI1 := Lib.hid hI1
  clear hI1 HI0
  go_wp2_with fail
  refine (checkQuery_any q w1).mono ?_
  rintro e w2 ⟨rfl, hb2⟩
  rw [HQE.out]
  have HI2 := Lib.hid (HI1.out.below hb2)
  clear hb2 HI1 q1
  by_cases hq : qe = 0
  case neg =>
    have HQ := Lib.hid hq
    go_wp2_with fail
    go_ret2
    refine ⟨.slice none 0 0, rfl, ?_⟩
    exact HI2.out.swap.drop.nilRow _ _
  case pos =>
    subst hq
    clear HQE
    obtain ⟨sp, tb, pb, T, hT, hI⟩ := HI2.out.openWorld
    have hI3 : In G w0 (Box p 99 #[.pointer (some ⟨sp, 0, none⟩), .map (some tb), .map (some pb)] :: SlotsA sp ls :: PtrMap tb (T.ks.map fun K => (K, T.pt K)) :: PlaceMap pb T.ps :: Box qb 93 (ints q.list) :: (l ++ T.ks.map (tblOf T))) w2 := hI
    have hkd : ∀ K ∈ T.ks, (0 ≤ K ∧ K ≤ 255) ∧ ∀ r ∈ T.rw K, r.b.k = K := fun K hK => tbl_kind (In.pickT (X := Box p 99 #[.pointer (some ⟨sp, 0, none⟩), .map (some tb), .map (some pb)] :: SlotsA sp ls :: PtrMap tb (T.ks.map fun K => (K, T.pt K)) :: PlaceMap pb T.ps :: Box qb 93 (ints q.list) :: l) hI3 hK)
    have HKD := Lib.hid hkd
    have HT := Lib.hid hT
    have HKL := Lib.hid (ks_len hT.nd fun K hK => (hkd K hK).1)
    have HI3 := Lib.hid hI3
    have k0 : w2.cell? ⟨p, 1, none⟩ = some (.map (some tb)) := hI3.blk.cell 1
    clear hT hI hI3 hkd HI2
    go_wp2_with fail
    refine (tkeys_any tb w2).mono ?_
    rintro e w3 ⟨rfl, rfl⟩
    have hI4 := (HI3.out.alloc 96 #[.map (some tb)])
    have hcol := tkeysCollect_any (m := T.ks.map fun K => (K, T.pt K)) hI4.blk (hI4.fourth.mapAt) (by rw [List.length_map]; have := HKL.out; omega)
    have HCOL := Lib.hid hcol
    have HI4 := Lib.hid hI4.drop
    clear hI4 hcol HI3 k0
    generalize w2.alloc (.cells #[.map (some tb)] 96) = w3 at *
    go_wp2_with fail
    refine HCOL.out.mono ?_
    rintro e w4 ⟨v4, ys, rfl, hp, ho, hb⟩
    rw [mkeys_pt] at hp
    have HP := Lib.hid hp
    have hyl : ys.length ≤ 256 := by rw [hp.length_eq]; exact HKL.out
    have HI5 : Hid (In G w0 (RowsA (.slice none 0 0) [] :: IntsA v4 ys :: Box p 99 #[.pointer (some ⟨sp, 0, none⟩), .map (some tb), .map (some pb)] :: SlotsA sp ls :: PtrMap tb (T.ks.map fun K => (K, T.pt K)) :: PlaceMap pb T.ps :: Box qb 93 (ints q.list) :: (l ++ T.ks.map (tblOf T))) w4) := (HI4.out.newInts ho hb).nilRow _ _
    obtain ⟨A4, c4, rfl, _⟩ := HI5.out.swap.intsAt
    clear ho hb HCOL HI4 hp
    obtain ⟨i0, hi0, hz0, hz1, hz2⟩ := info_parts row_parts
    have hyi : (ys.length : Int) ≤ 256 := by omega
    go_wp2_with fail
    go_loopw [26, 7] (fun i v w' => ∃ j : Nat, j ≤ ys.length ∧ i = .int .i64 j ∧ In G w0 (RowsA v (matchK q ys T.rw j) :: IntsA (.slice A4 ys.length c4) ys :: Box p 99 #[.pointer (some ⟨sp, 0, none⟩), .map (some tb), .map (some pb)] :: SlotsA sp ls :: PtrMap tb (T.ks.map fun K => (K, T.pt K)) :: PlaceMap pb T.ps :: Box qb 93 (ints q.list) :: (l ++ T.ks.map (tblOf T))) w') (fun i _ _ => ys.length - (intOf i).toNat)
    case atStart => exact ⟨0, by omega, rfl, HI5.out⟩
    case round =>
      clear HI5
      obtain ⟨j, hj, rfl, hI⟩ := hrel
      have HI := Lib.hid hI
      obtain ⟨A5, c5, hA5, hr5⟩ := hI.swap.intsAt
      injection hA5 with e1 e2 e3
      subst e1; subst e3
      have HR5 := Lib.hid hr5
      clear hI hr5 e2
      by_cases hlt : j < ys.length
      · have hji : (j : Int) < ys.length := by omega
        obtain ⟨g, o2, rfl, hgl, hkl2, hc2⟩ := HR5.out.at_ (k := j) hlt
        have HMS := Lib.hid (matchK_succ q ys T.rw j hlt)
        have hKm : ys[j] ∈ T.ks := HP.out.mem_iff.1 (List.getElem_mem hlt)
        generalize ys[j] = K at *
        have HKM := Lib.hid hKm
        have q1 : row? wr qb 0 3 = some (ints q.list) := (HI.out.nth 6 (by simp)).blk.row_all rfl
        clear HR5 hKm
        go_wp2_with fail
        refine (matchQ_any K q wr).mono ?_
        rintro e w5 ⟨rfl, hb5⟩
        have HI5 := Lib.hid (HI.out.below hb5)
        clear hb5 q1 hc2 HI
        cases hm : matchQ K q with
        | false =>
          rw [if_neg (by rw [hm]; simp)] at HMS
          clear hm
          go_wp2_with fail
          go_roundw
          case rel => exact ⟨j + 1, by omega, by go_num, by rw [HMS.out]; exact HI5.out⟩
          case measure => simp [intOf]; omega
        | true =>
          rw [if_pos hm] at HMS
          clear hm
          have k1 : w5.cell? ⟨p, 1, none⟩ = some (.map (some tb)) := (HI5.out.third).blk.cell 1
          have hmap := (HI5.out.nth 4 (by simp)).mapAt
          have hl1 := look_tbl hmap HKM.out (HKD.out K HKM.out).1 (Below.refl _ _)
          clear hmap
          have hl60 := HT.out.rows_len HKM.out
          have HI6 : Hid (In G w0 (Tbl (T.pt K) K (T.rw K) :: RowsA u7 (matchK q ys T.rw j) :: IntsA (.slice (some ⟨g, o2, none⟩) ys.length c4) ys :: Box p 99 #[.pointer (some ⟨sp, 0, none⟩), .map (some tb), .map (some pb)] :: SlotsA sp ls :: PtrMap tb (T.ks.map fun K => (K, T.pt K)) :: PlaceMap pb T.ps :: Box qb 93 (ints q.list) :: l ++ (T.ks.erase K).map (tblOf T)) w5) := In.pickT (X := RowsA u7 (matchK q ys T.rw j) :: IntsA (.slice (some ⟨g, o2, none⟩) ys.length c4) ys :: Box p 99 #[.pointer (some ⟨sp, 0, none⟩), .map (some tb), .map (some pb)] :: SlotsA sp ls :: PtrMap tb (T.ks.map fun K => (K, T.pt K)) :: PlaceMap pb T.ps :: Box qb 93 (ints q.list) :: l) HI5.out HKM.out
          have HH := Lib.hid (thandles_in HI6.out (by omega))
          go_wp2_with fail
          refine HH.out.mono ?_
          rintro e w6 ⟨hv, rfl, ho, hb6, hI7⟩
          obtain ⟨A6, c6, rfl, _, _, _⟩ := own_form ho
          have HI7 : Hid (In G w0 (RowsA u7 (matchK q ys T.rw j ++ (T.rw K).take 0) :: Tbl (T.pt K) K (T.rw K) :: IntsA (.slice (some ⟨g, o2, none⟩) ys.length c4) ys :: Box p 99 #[.pointer (some ⟨sp, 0, none⟩), .map (some tb), .map (some pb)] :: SlotsA sp ls :: PtrMap tb (T.ks.map fun K => (K, T.pt K)) :: PlaceMap pb T.ps :: Box qb 93 (ints q.list) :: l ++ (T.ks.erase K).map (tblOf T)) w6) := by
            rw [List.take_zero, List.append_nil]
            exact hI7.swap
          clear ho hb6 hI7 HI6 HI5 HH k1 hl1
          have hvl : ∀ r ∈ T.rw K, r.b.v.length = 8 := fun r hr => by
            obtain ⟨i, hi, hir⟩ := List.mem_iff_getElem.1 hr
            obtain ⟨h1, _⟩ := HT.out.at_ K HKM.out i r (by rw [List.getElem?_eq_getElem hi, hir])
            exact (HT.out.ok _ _ _ h1).2.1
          have HVL := Lib.hid hvl
          have hml : (matchK q ys T.rw j).length ≤ 60 * ((ys.take j).filter fun K => matchQ K q).length := flat_le T.rw _ fun K' hK' => HT.out.rows_len (HP.out.mem_iff.1 (List.mem_of_mem_take (List.mem_filter.1 hK').1))
          have hml2 : ((ys.take j).filter fun K => matchQ K q).length ≤ 256 := Nat.le_trans (List.length_filter_le _ _) (by rw [List.length_take]; omega)
          have HML : Hid ((matchK q ys T.rw j).length ≤ 15360) := by unfold Hid; omega
          clear hvl hml hml2
          generalize matchK q ys T.rw j = done at *
          have hri : ((T.rw K).length : Int) ≤ 60 := by omega
          go_wp2_with fail
          go_loopw [43, 7] (fun i v w' => ∃ k : Nat, k ≤ (T.rw K).length ∧ i = .int .i64 k ∧ In G w0 (RowsA v (done ++ (T.rw K).take k) :: Tbl (T.pt K) K (T.rw K) :: IntsA (.slice (some ⟨g, o2, none⟩) ys.length c4) ys :: Box p 99 #[.pointer (some ⟨sp, 0, none⟩), .map (some tb), .map (some pb)] :: SlotsA sp ls :: PtrMap tb (T.ks.map fun K => (K, T.pt K)) :: PlaceMap pb T.ps :: Box qb 93 (ints q.list) :: l ++ (T.ks.erase K).map (tblOf T)) w') (fun i _ _ => (T.rw K).length - (intOf i).toNat)
          case atStart => exact ⟨0, by omega, rfl, HI7.out⟩
          case round =>
            clear HI7
            obtain ⟨k, hk, rfl, hI⟩ := hrel
            have HI := Lib.hid hI
            clear hI
            by_cases hkl : k < (T.rw K).length
            · have hki : (k : Int) < (T.rw K).length := by omega
              have HRR : Hid (rowR (T.rw K) (k : Int) = ((T.rw K)[k], 0)) := by
                unfold Hid rowR isRowB
                have h1 : decide (0 ≤ (k : Int)) = true := decide_eq_true (by omega)
                have h2 : decide ((k : Int) < ((T.rw K).length : Nat)) = true := decide_eq_true (by omega)
                rw [h1, h2, Int.toNat_natCast, List.getD_eq_getElem?_getD, List.getElem?_eq_getElem hkl]; rfl
              have HR := Lib.hid (trow_in HI.out.swap (k : Int) (by omega))
              rw [HRR.out] at HR
              have HTK : Hid (done ++ (T.rw K).take (k + 1) = (done ++ (T.rw K).take k) ++ [(T.rw K)[k]]) := by unfold Hid; rw [List.take_succ_eq_append_getElem hkl, List.append_assoc]
              have hx11 : ((T.rw K)[k]).list.length = 11 := by
                have h8 := HVL.out _ (List.getElem_mem hkl)
                simp [RowM.list, Beast.list, h8]
              have HRC : Hid (rowC (T.rw K)[k] = ((T.rw K)[k]).list.map (Value.int .i64)) := by unfold Hid rowC rowE; rw [fixL_eq hx11]
              have hcl : (done ++ (T.rw K).take k).length ≤ 20000 := by rw [List.length_append, List.length_take]; have := HML.out; omega
              generalize (T.rw K)[k] = r at *
              have HX11 := Lib.hid hx11
              generalize hxs : r.list = xs at *
              generalize done ++ (T.rw K).take k = cur at *
              clear hx11 hxs
              have hxl : xs.length = 11 := HX11.out
              go_wp2_with fail
              refine HR.out.mono ?_
              rintro e w8 ⟨rfl, _, hI8⟩
              have HI8 := Lib.hid hI8.swap
              clear hI8 HR HI HRR
              go_upto_region 14 with (fail)
              refine wp_abs (In G w0 (Box w8.heap.size 51 (ints xs) :: RowsA u7 cur :: Tbl (T.pt K) K (T.rw K) :: IntsA (.slice (some ⟨g, o2, none⟩) ys.length c4) ys :: Box p 99 #[.pointer (some ⟨sp, 0, none⟩), .map (some tb), .map (some pb)] :: SlotsA sp ls :: PtrMap tb (T.ks.map fun K => (K, T.pt K)) :: PlaceMap pb T.ps :: Box qb 93 (ints q.list) :: l ++ (T.ks.erase K).map (tblOf T))) (HI8.out.struct 51 [0, 0, 0, 0, 0, 0, 0, 0, 0, 0, 0] xs hxl) ?_
              generalize w8.heap.size = rb
              intro w9 hI9
              have d3 : row? w9 rb 0 11 = some (ints xs) := hI9.blk.row_all hxl
              have HI9 := Lib.hid hI9.drop
              have HOW := Lib.hid hI9.drop.rowAt
              have hone : ∀ u ∈ xs.map (Value.int .i64), u.oneCell' = true := by
                intro u hu; obtain ⟨y, _, rfl⟩ := List.mem_map.1 hu; rfl
              have HONE := Lib.hid hone
              clear hI9 hone HI8
              go_wp2_with (at_builtin; go_loud (refine wpList_append1_at rfl _ _ _ rfl 0 51 i0 _ 11 88 Tryz.underlying23 hi0 hz0 hz1 hz2 rfl (by decide) _ cur.length _ rfl HOW.out (xs.map (Value.int .i64)) rfl (by rw [List.length_map]; exact HX11.out) HONE.out (by unfold maxLen; omega) (by omega) (Nat.zero_le _) ?_))
              intro v' w10 hown7 hg7 hat7
              have hI10 := In.append1 HI9.out hown7 hg7 hat7
              have hI11 : In G w0 (RowsA v' (cur ++ [r]) :: Tbl (T.pt K) K (T.rw K) :: IntsA (.slice (some ⟨g, o2, none⟩) ys.length c4) ys :: Box p 99 #[.pointer (some ⟨sp, 0, none⟩), .map (some tb), .map (some pb)] :: SlotsA sp ls :: PtrMap tb (T.ks.map fun K => (K, T.pt K)) :: PlaceMap pb T.ps :: Box qb 93 (ints q.list) :: l ++ (T.ks.erase K).map (tblOf T)) w10 := by
                unfold RowsA
                rw [List.length_append, List.flatMap_append, List.flatMap_cons, List.flatMap_nil, List.append_nil, HRC.out]
                exact hI10
              have HI11 := Lib.hid hI11
              clear hown7 hg7 hat7 hI10 hI11 d3 HI9 HOW
              go_wp2_with fail
              go_roundw
              case rel => exact ⟨k + 1, by omega, by go_num, by rw [HTK.out]; exact HI11.out⟩
              case measure => simp [intOf]; omega
            · have hkm : k = (T.rw K).length := by omega
              subst hkm
              rw [List.take_length, ← HMS.out] at HI
              have hI12 : In G w0 (Tbl (T.pt K) K (T.rw K) :: (RowsA u7 (matchK q ys T.rw (j + 1)) :: IntsA (.slice (some ⟨g, o2, none⟩) ys.length c4) ys :: Box p 99 #[.pointer (some ⟨sp, 0, none⟩), .map (some tb), .map (some pb)] :: SlotsA sp ls :: PtrMap tb (T.ks.map fun K => (K, T.pt K)) :: PlaceMap pb T.ps :: Box qb 93 (ints q.list) :: l ++ (T.ks.erase K).map (tblOf T))) wr := HI.out.swap
              go_wp2_with fail
              go_roundw
              case rel => exact ⟨j + 1, by omega, by go_num, In.unpickT (X := RowsA u7 (matchK q ys T.rw (j + 1)) :: IntsA (.slice (some ⟨g, o2, none⟩) ys.length c4) ys :: Box p 99 #[.pointer (some ⟨sp, 0, none⟩), .map (some tb), .map (some pb)] :: SlotsA sp ls :: PtrMap tb (T.ks.map fun K => (K, T.pt K)) :: PlaceMap pb T.ps :: Box qb 93 (ints q.list) :: l) HKM.out hI12⟩
              case measure => simp [intOf]; omega
      · have hjm : j = ys.length := by omega
        subst hjm
        have HMA : Hid (matchK q ys T.rw ys.length = (ys.filter fun K => matchQ K q).flatMap T.rw) := by unfold Hid matchK; rw [List.take_length]
        have hml : ((ys.filter fun K => matchQ K q).flatMap T.rw).length ≤ 60 * (ys.filter fun K => matchQ K q).length := flat_le T.rw _ fun K' hK' => HT.out.rows_len (HP.out.mem_iff.1 (List.mem_filter.1 hK').1)
        have hml2 : (ys.filter fun K => matchQ K q).length ≤ 256 := Nat.le_trans (List.length_filter_le _ _) (by omega)
        rw [HMA.out] at HI
        have hso := sortR_in HI.out (by omega)
        have HSO := Lib.hid hso
        clear hso hml hml2
        go_wp2_with fail
        refine HSO.out.mono ?_
        rintro e w8 ⟨rfl, zs, hzp, hzs, hI9⟩
        have hfin : zs = rowsW ls f q := tables_sort HT.out HK.out (fun K hK => (HKD.out K hK).2) q HP.out hzp (hzs.imp fun {a b} h => by omega)
        rw [hfin] at hI9
        have HI9 := Lib.hid hI9
        clear hI9 hfin hzp hzs HSO HI HMA
        go_wp2_with fail
        go_ret2
        refine ⟨_, rfl, ?_⟩
        have hI10 := HI9.out.swap.drop
        exact (In.shutWorld (l := Box qb 93 (ints q.list) :: RowsA u7 (rowsW ls f q) :: l) HT.out (hI10.reorder 6 [1, 2, 3, 4, 5, 0] rfl (by simp))).swap.drop.swap
end

end Go.Proofs.YtpgcghnlepnoiaaGreatDoor

/-
  The closed fact 'lived'; 'made': a world by some ops; 'all': its rows.
-/
namespace Go.Proofs.YtpgcghnlepnoiaaGreatDoor
open Go.RowKit

theorem zeroQ_list : zeroQ.list = [0, 0, 0] := rfl
theorem matchZero (k : Int) : matchQ k zeroQ = true := by
  exact matches_none k
theorem zeroQ_err : queryErr zeroQ = 0 := by decide

end Go.Proofs.YtpgcghnlepnoiaaGreatDoor

/-
  Rows of a world handed to vivariumref.Has and Eq; the generations of a world.
-/
namespace Go.Proofs.YtpgcghnlepnoiaaGreatDoor
open Go.RowKit

noncomputable instance : DecidableEq RowM := fun a b => Classical.propDecidable (a = b)
theorem rowE_inj {r s : RowM} (hr : r.b.v.length = 8) (hs : s.b.v.length = 8) (h : rowE r = rowE s) : r = s := by
  rw [rowE_eq hr, rowE_eq hs] at h
  obtain ⟨⟨a, b⟩, ⟨k, v⟩⟩ := r
  obtain ⟨⟨a', b'⟩, ⟨k', v'⟩⟩ := s
  unfold RowM.list Beast.list at h
  simp only [List.cons.injEq] at h
  obtain ⟨rfl, rfl, rfl, rfl⟩ := h
  rfl
section
variable {ls : List (Int × Bool)} {f : BF}
theorem allW_ok (h : WOk ls f) {r : RowM} (hr : r ∈ allW ls f) : r.b.v.length = 8 ∧ beastErr r.b = 0 ∧ liveB ls r.h.1 r.h.2 = true ∧ f r.h.1 = some (r.h.2, r.b) := by
  have h1 := (mem_allW h).1 hr
  obtain ⟨h2, h3⟩ := h.bo _ _ _ h1
  exact ⟨h3, h2, (h.lv _ _).2 ⟨_, h1⟩, h1⟩
theorem allW_slot (h : WOk ls f) {r : RowM} (hr : r ∈ allW ls f) : ∃ s : Nat, r.h.1 = (s : Int) ∧ s < ls.length ∧ (gensL ls).getD s 0 = r.h.2 := by
  obtain ⟨_, _, h1, _⟩ := allW_ok h hr
  obtain ⟨k, e1, e2, e3⟩ := live_true h1
  refine ⟨k, e1, e2, ?_⟩
  rw [gensL_map, List.getD_eq_getElem?_getD, List.getElem?_map, List.getElem?_eq_getElem e2]
  rw [List.getD_eq_getElem?_getD, List.getElem?_eq_getElem e2] at e3
  simp only [Option.getD_some] at e3
  simp [e3]
theorem gensL_len (ls : List (Int × Bool)) : (gensL ls).length = ls.length := by rw [gensL_map, List.length_map]
theorem allW_len (h : WOk ls f) : (allW ls f).length ≤ 60 := by
  have := rowsW_len ls f zeroQ
  rw [rows_all matchZero] at this
  have := h.so.1
  omega
theorem getW_row (h : WOk ls f) {r : RowM} (hr : r ∈ allW ls f) : getW ls f r.h = (r.b, 0) := by
  obtain ⟨_, _, h1, h2⟩ := allW_ok h hr
  unfold getW beastOf
  rw [if_pos (by simpa using h1), h2]; rfl
end
section
variable {G : Nat → Prop} {w0 w : World} {l : List Assn} {v u : Value}
theorem rowsA_chunks {rs : List RowM} (h : In G w0 (RowsA v rs :: l) w) : ∃ A c, v = .slice A rs.length c ∧ rs.length ≤ c ∧ c ≤ maxLen ∧ Chunks w w.heap.size 11 A (rs.map rowE) ∧ (0 < rs.length → ∃ g, A = some ⟨g, 0, none⟩) :=
  own_chunks (f := rowE) (fun _ => rfl) rowE_len h.rowAt
theorem eqR_in {a b : List RowM} (h : In G w0 (RowsA v a :: l) w) {l' : List Assn} {G' : Nat → Prop} {w0' : World} (h' : In G' w0' (RowsA u b :: l') w) : Calls Tryz.prog 28 #[v, u] w fun e w' => e = .returned (.bool (decide (a.map rowE = b.map rowE))) ∧ Below w.heap.size w w' := by
  obtain ⟨A, c, rfl, hc1, hc2, hch, _⟩ := rowsA_chunks h
  obtain ⟨A', c', rfl, hc1', hc2', hch', _⟩ := rowsA_chunks h'
  have := eqRow_any A A' c c' (a.map rowE) (b.map rowE) w hch hch' (by rw [List.length_map]; omega) (by rw [List.length_map]; omega)
  rw [List.length_map, List.length_map] at this
  exact this
theorem eqR_same {a b : List RowM} (h : In G w0 (RowsA v a :: l) w) {l' : List Assn} {G' : Nat → Prop} {w0' : World} (h' : In G' w0' (RowsA u b :: l') w) (e : a = b) : Calls Tryz.prog 28 #[v, u] w fun e w' => e = .returned (.bool true) ∧ Below w.heap.size w w' := by
  have := eqR_in h h'
  rw [decide_eq_true (by rw [e])] at this
  exact this
end

end Go.Proofs.YtpgcghnlepnoiaaGreatDoor

/-
  The walk of the law WorldPuts.
-/
namespace Go.Proofs.YtpgcghnlepnoiaaGreatDoor
open Go.RowKit

/-- a row as the law expects it -/
def putRowM (x : Int × Int) (k : Nat) (n : Int) (r : RowM) : RowM := if r.h = x then ⟨r.h, putB r.b k n⟩ else r
theorem add_bit : ∀ (m k : Nat), m < 256 → k < 8 → m.testBit k = false → wrap64 ((m : Int) + wrap64 (2 ^ k)) = ((m ||| 2 ^ k : Nat) : Int) := by
  have h : ∀ (m : Fin 256) (k : Fin 8), m.val.testBit k.val = false → wrap64 ((m.val : Int) + wrap64 (2 ^ k.val)) = ((m.val ||| 2 ^ k.val : Nat) : Int) := by decide +kernel
  exact fun m k hm hk => h ⟨m, hm⟩ ⟨k, hk⟩
theorem rowsAt_get {G : Nat → Prop} {w0 w : World} {l : List Assn} {A : Option Addr} {n c : Nat} {rs : List RowM} (h : In G w0 (RowsA (.slice A n c) rs :: l) w) {k : Nat} (hk : k < rs.length) (h8 : rs[k].b.v.length = 8) : ∃ g, A = some ⟨g, 0, none⟩ ∧ row? w g (k * 11) 11 = some (ints (RowM.list rs[k])) := by
  obtain ⟨A', c', e, _, _, hr⟩ := h.rowsAt
  injection e with e1 e2 e3
  subst e1
  obtain ⟨g, h1, h2⟩ := hr k hk
  refine ⟨g, h1, ?_⟩
  rw [h2, List.getD_eq_getElem?_getD, List.getElem?_eq_getElem hk, Option.getD_some, rowE_eq h8]

end Go.Proofs.YtpgcghnlepnoiaaGreatDoor

/-
  Rows and all at a world whose slots lie at a known place (printed by wip/gen_rowsS.py from my own texts); the generations there.
-/
namespace Go.Proofs.YtpgcghnlepnoiaaGreatDoor
open Go.RowKit Go.Sort

section
variable {G : Nat → Prop} {w0 w : World} {l : List Assn} {p sp : Nat} {ls : List (Int × Bool)} {f : BF}
set_option maxHeartbeats 8000000 in
set_option maxRecDepth 100000 in
theorem rowsS_in (h : In G w0 (WorldS p sp ls f :: l) w) (hk : WOk ls f) (q : Query) :
    Calls Tryz.prog 37 #[.pointer (some ⟨p, 0, none⟩), .agg (ints q.list)] w fun e w' => ∃ v, e = .returned (.tuple #[v, .int .i64 (queryErr q)]) ∧ In G w0 (RowsA v (if queryErr q = 0 then rowsW ls f q else []) :: WorldS p sp ls f :: l) w' := by
  have HI0 := Lib.hid h
  have HK := Lib.hid hk
  clear h hk
  obtain ⟨qe, hqe⟩ : ∃ x, queryErr q = x := ⟨_, rfl⟩
  rw [hqe]
  have HQE := Lib.hid hqe
  clear hqe
  go_enter Tryz.func37, Tryz.ntmps37
  go_upto_region 1 with (fail)
  refine wp_abs (In G w0 (WorldS p sp ls f :: Box w.heap.size 93 (ints q.list) :: l)) ((HI0.out.alloc 93 (ints q.list)).swap) ?_
  generalize w.heap.size = qb
  intro w1 hI1
  have q1 : row? w1 qb 0 3 = some (ints q.list) := hI1.swap.blk.row_all rfl
  have HI1 := Lib.hid hI1
  clear hI1 HI0
  go_wp2_with fail
  refine (checkQuery_any q w1).mono ?_
  rintro e w2 ⟨rfl, hb2⟩
  rw [HQE.out]
  have HI2 := Lib.hid (HI1.out.below hb2)
  clear hb2 HI1 q1
  by_cases hq : qe = 0
  case neg =>
    have HQ := Lib.hid hq
    go_wp2_with fail
    go_ret2
    refine ⟨.slice none 0 0, rfl, ?_⟩
    exact HI2.out.swap.drop.nilRow _ _
  case pos =>
    subst hq
    clear HQE
    obtain ⟨tb, pb, T, hT, hI⟩ := HI2.out.openWorldS
    have hI3 : In G w0 (Box p 99 #[.pointer (some ⟨sp, 0, none⟩), .map (some tb), .map (some pb)] :: SlotsA sp ls :: PtrMap tb (T.ks.map fun K => (K, T.pt K)) :: PlaceMap pb T.ps :: Box qb 93 (ints q.list) :: (l ++ T.ks.map (tblOf T))) w2 := hI
    have hkd : ∀ K ∈ T.ks, (0 ≤ K ∧ K ≤ 255) ∧ ∀ r ∈ T.rw K, r.b.k = K := fun K hK => tbl_kind (In.pickT (X := Box p 99 #[.pointer (some ⟨sp, 0, none⟩), .map (some tb), .map (some pb)] :: SlotsA sp ls :: PtrMap tb (T.ks.map fun K => (K, T.pt K)) :: PlaceMap pb T.ps :: Box qb 93 (ints q.list) :: l) hI3 hK)
    have HKD := Lib.hid hkd
    have HT := Lib.hid hT
    have HKL := Lib.hid (ks_len hT.nd fun K hK => (hkd K hK).1)
    have HI3 := Lib.hid hI3
    have k0 : w2.cell? ⟨p, 1, none⟩ = some (.map (some tb)) := hI3.blk.cell 1
    clear hT hI hI3 hkd HI2
    go_wp2_with fail
    refine (tkeys_any tb w2).mono ?_
    rintro e w3 ⟨rfl, rfl⟩
    have hI4 := (HI3.out.alloc 96 #[.map (some tb)])
    have hcol := tkeysCollect_any (m := T.ks.map fun K => (K, T.pt K)) hI4.blk (hI4.fourth.mapAt) (by rw [List.length_map]; have := HKL.out; omega)
    have HCOL := Lib.hid hcol
    have HI4 := Lib.hid hI4.drop
    clear hI4 hcol HI3 k0
    generalize w2.alloc (.cells #[.map (some tb)] 96) = w3 at *
    go_wp2_with fail
    refine HCOL.out.mono ?_
    rintro e w4 ⟨v4, ys, rfl, hp, ho, hb⟩
    rw [mkeys_pt] at hp
    have HP := Lib.hid hp
    have hyl : ys.length ≤ 256 := by rw [hp.length_eq]; exact HKL.out
    have HI5 : Hid (In G w0 (RowsA (.slice none 0 0) [] :: IntsA v4 ys :: Box p 99 #[.pointer (some ⟨sp, 0, none⟩), .map (some tb), .map (some pb)] :: SlotsA sp ls :: PtrMap tb (T.ks.map fun K => (K, T.pt K)) :: PlaceMap pb T.ps :: Box qb 93 (ints q.list) :: (l ++ T.ks.map (tblOf T))) w4) := (HI4.out.newInts ho hb).nilRow _ _
    obtain ⟨A4, c4, rfl, _⟩ := HI5.out.swap.intsAt
    clear ho hb HCOL HI4 hp
    obtain ⟨i0, hi0, hz0, hz1, hz2⟩ := info_parts row_parts
    have hyi : (ys.length : Int) ≤ 256 := by omega
    go_wp2_with fail
    go_loopw [26, 7] (fun i v w' => ∃ j : Nat, j ≤ ys.length ∧ i = .int .i64 j ∧ In G w0 (RowsA v (matchK q ys T.rw j) :: IntsA (.slice A4 ys.length c4) ys :: Box p 99 #[.pointer (some ⟨sp, 0, none⟩), .map (some tb), .map (some pb)] :: SlotsA sp ls :: PtrMap tb (T.ks.map fun K => (K, T.pt K)) :: PlaceMap pb T.ps :: Box qb 93 (ints q.list) :: (l ++ T.ks.map (tblOf T))) w') (fun i _ _ => ys.length - (intOf i).toNat)
    case atStart => exact ⟨0, by omega, rfl, HI5.out⟩
    case round =>
      clear HI5
      obtain ⟨j, hj, rfl, hI⟩ := hrel
      have HI := Lib.hid hI
      obtain ⟨A5, c5, hA5, hr5⟩ := hI.swap.intsAt
      injection hA5 with e1 e2 e3
      subst e1; subst e3
      have HR5 := Lib.hid hr5
      clear hI hr5 e2
      by_cases hlt : j < ys.length
      · have hji : (j : Int) < ys.length := by omega
        obtain ⟨g, o2, rfl, hgl, hkl2, hc2⟩ := HR5.out.at_ (k := j) hlt
        have HMS := Lib.hid (matchK_succ q ys T.rw j hlt)
        have hKm : ys[j] ∈ T.ks := HP.out.mem_iff.1 (List.getElem_mem hlt)
        generalize ys[j] = K at *
        have HKM := Lib.hid hKm
        have q1 : row? wr qb 0 3 = some (ints q.list) := (HI.out.nth 6 (by simp)).blk.row_all rfl
        clear HR5 hKm
        go_wp2_with fail
        refine (matchQ_any K q wr).mono ?_
        rintro e w5 ⟨rfl, hb5⟩
        have HI5 := Lib.hid (HI.out.below hb5)
        clear hb5 q1 hc2 HI
        cases hm : matchQ K q with
        | false =>
          rw [if_neg (by rw [hm]; simp)] at HMS
          clear hm
          go_wp2_with fail
          go_roundw
          case rel => exact ⟨j + 1, by omega, by go_num, by rw [HMS.out]; exact HI5.out⟩
          case measure => simp [intOf]; omega
        | true =>
          rw [if_pos hm] at HMS
          clear hm
          have k1 : w5.cell? ⟨p, 1, none⟩ = some (.map (some tb)) := (HI5.out.third).blk.cell 1
          have hmap := (HI5.out.nth 4 (by simp)).mapAt
          have hl1 := look_tbl hmap HKM.out (HKD.out K HKM.out).1 (Below.refl _ _)
          clear hmap
          have hl60 := HT.out.rows_len HKM.out
          have HI6 : Hid (In G w0 (Tbl (T.pt K) K (T.rw K) :: RowsA u7 (matchK q ys T.rw j) :: IntsA (.slice (some ⟨g, o2, none⟩) ys.length c4) ys :: Box p 99 #[.pointer (some ⟨sp, 0, none⟩), .map (some tb), .map (some pb)] :: SlotsA sp ls :: PtrMap tb (T.ks.map fun K => (K, T.pt K)) :: PlaceMap pb T.ps :: Box qb 93 (ints q.list) :: l ++ (T.ks.erase K).map (tblOf T)) w5) := In.pickT (X := RowsA u7 (matchK q ys T.rw j) :: IntsA (.slice (some ⟨g, o2, none⟩) ys.length c4) ys :: Box p 99 #[.pointer (some ⟨sp, 0, none⟩), .map (some tb), .map (some pb)] :: SlotsA sp ls :: PtrMap tb (T.ks.map fun K => (K, T.pt K)) :: PlaceMap pb T.ps :: Box qb 93 (ints q.list) :: l) HI5.out HKM.out
          have HH := Lib.hid (thandles_in HI6.out (by omega))
          go_wp2_with fail
          refine HH.out.mono ?_
          rintro e w6 ⟨hv, rfl, ho, hb6, hI7⟩
          obtain ⟨A6, c6, rfl, _, _, _⟩ := own_form ho
          have HI7 : Hid (In G w0 (RowsA u7 (matchK q ys T.rw j ++ (T.rw K).take 0) :: Tbl (T.pt K) K (T.rw K) :: IntsA (.slice (some ⟨g, o2, none⟩) ys.length c4) ys :: Box p 99 #[.pointer (some ⟨sp, 0, none⟩), .map (some tb), .map (some pb)] :: SlotsA sp ls :: PtrMap tb (T.ks.map fun K => (K, T.pt K)) :: PlaceMap pb T.ps :: Box qb 93 (ints q.list) :: l ++ (T.ks.erase K).map (tblOf T)) w6) := by
            rw [List.take_zero, List.append_nil]
            exact hI7.swap
          clear ho hb6 hI7 HI6 HI5 HH k1 hl1
          have hvl : ∀ r ∈ T.rw K, r.b.v.length = 8 := fun r hr => by
            obtain ⟨i, hi, hir⟩ := List.mem_iff_getElem.1 hr
            obtain ⟨h1, _⟩ := HT.out.at_ K HKM.out i r (by rw [List.getElem?_eq_getElem hi, hir])
            exact (HT.out.ok _ _ _ h1).2.1
          have HVL := Lib.hid hvl
          have hml : (matchK q ys T.rw j).length ≤ 60 * ((ys.take j).filter fun K => matchQ K q).length := flat_le T.rw _ fun K' hK' => HT.out.rows_len (HP.out.mem_iff.1 (List.mem_of_mem_take (List.mem_filter.1 hK').1))
          have hml2 : ((ys.take j).filter fun K => matchQ K q).length ≤ 256 := Nat.le_trans (List.length_filter_le _ _) (by rw [List.length_take]; omega)
          have HML : Hid ((matchK q ys T.rw j).length ≤ 15360) := by unfold Hid; omega
          clear hvl hml hml2
          generalize matchK q ys T.rw j = done at *
          have hri : ((T.rw K).length : Int) ≤ 60 := by omega
          go_wp2_with fail
          go_loopw [43, 7] (fun i v w' => ∃ k : Nat, k ≤ (T.rw K).length ∧ i = .int .i64 k ∧ In G w0 (RowsA v (done ++ (T.rw K).take k) :: Tbl (T.pt K) K (T.rw K) :: IntsA (.slice (some ⟨g, o2, none⟩) ys.length c4) ys :: Box p 99 #[.pointer (some ⟨sp, 0, none⟩), .map (some tb), .map (some pb)] :: SlotsA sp ls :: PtrMap tb (T.ks.map fun K => (K, T.pt K)) :: PlaceMap pb T.ps :: Box qb 93 (ints q.list) :: l ++ (T.ks.erase K).map (tblOf T)) w') (fun i _ _ => (T.rw K).length - (intOf i).toNat)
          case atStart => exact ⟨0, by omega, rfl, HI7.out⟩
          case round =>
            clear HI7
            obtain ⟨k, hk, rfl, hI⟩ := hrel
            have HI := Lib.hid hI
            clear hI
            by_cases hkl : k < (T.rw K).length
            · have hki : (k : Int) < (T.rw K).length := by omega
              have HRR : Hid (rowR (T.rw K) (k : Int) = ((T.rw K)[k], 0)) := by
                unfold Hid rowR isRowB
                have h1 : decide (0 ≤ (k : Int)) = true := decide_eq_true (by omega)
                have h2 : decide ((k : Int) < ((T.rw K).length : Nat)) = true := decide_eq_true (by omega)
                rw [h1, h2, Int.toNat_natCast, List.getD_eq_getElem?_getD, List.getElem?_eq_getElem hkl]; rfl
              have HR := Lib.hid (trow_in HI.out.swap (k : Int) (by omega))
              rw [HRR.out] at HR
              have HTK : Hid (done ++ (T.rw K).take (k + 1) = (done ++ (T.rw K).take k) ++ [(T.rw K)[k]]) := by unfold Hid; rw [List.take_succ_eq_append_getElem hkl, List.append_assoc]
              have hx11 : ((T.rw K)[k]).list.length = 11 := by
                have h8 := HVL.out _ (List.getElem_mem hkl)
                simp [RowM.list, Beast.list, h8]
              have HRC : Hid (rowC (T.rw K)[k] = ((T.rw K)[k]).list.map (Value.int .i64)) := by unfold Hid rowC rowE; rw [fixL_eq hx11]
              have hcl : (done ++ (T.rw K).take k).length ≤ 20000 := by rw [List.length_append, List.length_take]; have := HML.out; omega
              generalize (T.rw K)[k] = r at *
              have HX11 := Lib.hid hx11
              generalize hxs : r.list = xs at *
              generalize done ++ (T.rw K).take k = cur at *
              clear hx11 hxs
              have hxl : xs.length = 11 := HX11.out
              go_wp2_with fail
              refine HR.out.mono ?_
              rintro e w8 ⟨rfl, _, hI8⟩
              have HI8 := Lib.hid hI8.swap
              clear hI8 HR HI HRR
              go_upto_region 14 with (fail)
              refine wp_abs (In G w0 (Box w8.heap.size 51 (ints xs) :: RowsA u7 cur :: Tbl (T.pt K) K (T.rw K) :: IntsA (.slice (some ⟨g, o2, none⟩) ys.length c4) ys :: Box p 99 #[.pointer (some ⟨sp, 0, none⟩), .map (some tb), .map (some pb)] :: SlotsA sp ls :: PtrMap tb (T.ks.map fun K => (K, T.pt K)) :: PlaceMap pb T.ps :: Box qb 93 (ints q.list) :: l ++ (T.ks.erase K).map (tblOf T))) (HI8.out.struct 51 [0, 0, 0, 0, 0, 0, 0, 0, 0, 0, 0] xs hxl) ?_
              generalize w8.heap.size = rb
              intro w9 hI9
              have d3 : row? w9 rb 0 11 = some (ints xs) := hI9.blk.row_all hxl
              have HI9 := Lib.hid hI9.drop
              have HOW := Lib.hid hI9.drop.rowAt
              have hone : ∀ u ∈ xs.map (Value.int .i64), u.oneCell' = true := by
                intro u hu; obtain ⟨y, _, rfl⟩ := List.mem_map.1 hu; rfl
              have HONE := Lib.hid hone
              clear hI9 hone HI8
              go_wp2_with (at_builtin; go_loud (refine wpList_append1_at rfl _ _ _ rfl 0 51 i0 _ 11 88 Tryz.underlying23 hi0 hz0 hz1 hz2 rfl (by decide) _ cur.length _ rfl HOW.out (xs.map (Value.int .i64)) rfl (by rw [List.length_map]; exact HX11.out) HONE.out (by unfold maxLen; omega) (by omega) (Nat.zero_le _) ?_))
              intro v' w10 hown7 hg7 hat7
              have hI10 := In.append1 HI9.out hown7 hg7 hat7
              have hI11 : In G w0 (RowsA v' (cur ++ [r]) :: Tbl (T.pt K) K (T.rw K) :: IntsA (.slice (some ⟨g, o2, none⟩) ys.length c4) ys :: Box p 99 #[.pointer (some ⟨sp, 0, none⟩), .map (some tb), .map (some pb)] :: SlotsA sp ls :: PtrMap tb (T.ks.map fun K => (K, T.pt K)) :: PlaceMap pb T.ps :: Box qb 93 (ints q.list) :: l ++ (T.ks.erase K).map (tblOf T)) w10 := by
                unfold RowsA
                rw [List.length_append, List.flatMap_append, List.flatMap_cons, List.flatMap_nil, List.append_nil, HRC.out]
                exact hI10
              have HI11 := Lib.hid hI11
              clear hown7 hg7 hat7 hI10 hI11 d3 HI9 HOW
              go_wp2_with fail
              go_roundw
              case rel => exact ⟨k + 1, by omega, by go_num, by rw [HTK.out]; exact HI11.out⟩
              case measure => simp [intOf]; omega
            · have hkm : k = (T.rw K).length := by omega
              subst hkm
              rw [List.take_length, ← HMS.out] at HI
              have hI12 : In G w0 (Tbl (T.pt K) K (T.rw K) :: (RowsA u7 (matchK q ys T.rw (j + 1)) :: IntsA (.slice (some ⟨g, o2, none⟩) ys.length c4) ys :: Box p 99 #[.pointer (some ⟨sp, 0, none⟩), .map (some tb), .map (some pb)] :: SlotsA sp ls :: PtrMap tb (T.ks.map fun K => (K, T.pt K)) :: PlaceMap pb T.ps :: Box qb 93 (ints q.list) :: l ++ (T.ks.erase K).map (tblOf T))) wr := HI.out.swap
              go_wp2_with fail
              go_roundw
              case rel => exact ⟨j + 1, by omega, by go_num, In.unpickT (X := RowsA u7 (matchK q ys T.rw (j + 1)) :: IntsA (.slice (some ⟨g, o2, none⟩) ys.length c4) ys :: Box p 99 #[.pointer (some ⟨sp, 0, none⟩), .map (some tb), .map (some pb)] :: SlotsA sp ls :: PtrMap tb (T.ks.map fun K => (K, T.pt K)) :: PlaceMap pb T.ps :: Box qb 93 (ints q.list) :: l) HKM.out hI12⟩
              case measure => simp [intOf]; omega
      · have hjm : j = ys.length := by omega
        subst hjm
        have HMA : Hid (matchK q ys T.rw ys.length = (ys.filter fun K => matchQ K q).flatMap T.rw) := by unfold Hid matchK; rw [List.take_length]
        have hml : ((ys.filter fun K => matchQ K q).flatMap T.rw).length ≤ 60 * (ys.filter fun K => matchQ K q).length := flat_le T.rw _ fun K' hK' => HT.out.rows_len (HP.out.mem_iff.1 (List.mem_filter.1 hK').1)
        have hml2 : (ys.filter fun K => matchQ K q).length ≤ 256 := Nat.le_trans (List.length_filter_le _ _) (by omega)
        rw [HMA.out] at HI
        have hso := sortR_in HI.out (by omega)
        have HSO := Lib.hid hso
        clear hso hml hml2
        go_wp2_with fail
        refine HSO.out.mono ?_
        rintro e w8 ⟨rfl, zs, hzp, hzs, hI9⟩
        have hfin : zs = rowsW ls f q := tables_sort HT.out HK.out (fun K hK => (HKD.out K hK).2) q HP.out hzp (hzs.imp fun {a b} h => by omega)
        rw [hfin] at hI9
        have HI9 := Lib.hid hI9
        clear hI9 hfin hzp hzs HSO HI HMA
        go_wp2_with fail
        go_ret2
        refine ⟨_, rfl, ?_⟩
        have hI10 := HI9.out.swap.drop
        exact (In.shutWorldS (l := Box qb 93 (ints q.list) :: RowsA u7 (rowsW ls f q) :: l) HT.out (hI10.reorder 6 [1, 2, 3, 4, 5, 0] rfl (by simp))).swap.drop.swap
theorem gensS_in (h : In G w0 (WorldS p sp ls f :: l) w) (hl : ls.length ≤ 60) : Calls Tryz.prog 38 #[.pointer (some ⟨sp, 0, none⟩)] w fun e w' => ∃ A c, e = .returned (.slice A ls.length c) ∧ In G w0 (IntsA (.slice A ls.length c) (gensL ls) :: WorldS p sp ls f :: l) w' := by
  obtain ⟨tb, pb, T, hT, hI⟩ := h.openWorldS
  obtain ⟨F1, hS⟩ := hI.swap.head
  refine (gens_any sp ls F1 w hS hl).mono ?_
  rintro e w' ⟨v, rfl, ho, hb⟩
  have hI2 := h.newInts ho hb
  obtain ⟨A, c, rfl, _⟩ := hI2.intsAt
  rw [gensL_len] at hI2 ⊢
  exact ⟨A, c, rfl, hI2⟩
theorem eqG_in {A A' : Option Addr} {n c c' : Nat} {xs : List Int} (hn : n ≤ maxLen) (h : In G w0 (IntsA (.slice A n c) xs :: l) w) {l' : List Assn} {G' : Nat → Prop} {w0' : World} (h' : In G' w0' (IntsA (.slice A' n c') xs :: l') w) :
    Calls Tryz.prog 27 #[.slice A n c, .slice A' n c'] w fun e w' => e = .returned (.bool true) ∧ w = w' := by
  obtain ⟨B, d, e, hr⟩ := h.intsAt
  obtain ⟨B', d', e', hr'⟩ := h'.intsAt
  injection e with e1 e2 e3
  injection e' with e4 e5 e6
  subst e1; subst e4
  rw [← e2] at hr
  rw [← e2] at hr'
  have := eqI_any A A' n n c c' xs xs w w.heap.size w.heap.size hr hr' hn hn
  rw [decide_eq_true rfl] at this
  exact this
theorem In.slotPtr (h : In G w0 (WorldS p sp ls f :: l) w) : w.cell? ⟨p, 0, none⟩ = some (.pointer (some ⟨sp, 0, none⟩)) := by
  obtain ⟨tb, pb, T, hT, hI⟩ := h.openWorldS
  exact hI.blk.cell 0
end

end Go.Proofs.YtpgcghnlepnoiaaGreatDoor

/-
  The walk of the law WorldDrops.
-/
namespace Go.Proofs.YtpgcghnlepnoiaaGreatDoor
open Go.RowKit

theorem or_sub : ∀ (m k : Nat), m < 256 → k < 8 → m.testBit k = false → (m ||| 2 ^ k) - 2 ^ k = m ∧ (m ||| 2 ^ k).testBit k = true := by
  have h : ∀ (m : Fin 256) (k : Fin 8), m.val.testBit k.val = false → (m.val ||| 2 ^ k.val) - 2 ^ k.val = m.val ∧ (m.val ||| 2 ^ k.val).testBit k.val = true := by decide +kernel
  exact fun m k hm hk => h ⟨m, hm⟩ ⟨k, hk⟩
theorem set_same : ∀ (v : List Int) (k : Nat) (x : Int), v.getD k 0 = x → k < v.length → v.set k x = v
  | [], _, _, _, h => by simp at h
  | a :: v, 0, x, h, _ => by simp at h; simp [h]
  | a :: v, k + 1, x, h, hk => by
    rw [List.set_cons_succ, set_same v k x (by simpa using h) (by simpa using hk)]
theorem drop_put {b : Beast} (hb : beastErr b = 0) (h8 : b.v.length = 8) {k : Nat} (hk : k < 8) (ht : b.k.toNat.testBit k = false) (n : Int) : dropB (putB b k n) k = b := by
  obtain ⟨h1, h2⟩ := (beast_iff b).1 hb
  obtain ⟨h3, _⟩ := h2 k hk
  unfold dropB putB
  simp only [Int.toNat_natCast]
  rw [(or_sub b.k.toNat k (by omega) hk ht).1, List.set_set, set_same b.v k 0 (h3 ht) (by omega)]
  rw [show ((b.k.toNat : Nat) : Int) = b.k by omega]
section
variable {ls : List (Int × Bool)} {f : BF}
theorem getW_live (h : WOk ls f) {x : Int × Int} (hl : liveB ls x.1 x.2 = true) : getW ls f x = (beastOf f x.1, 0) ∧ beastErr (beastOf f x.1) = 0 ∧ (beastOf f x.1).v.length = 8 := by
  obtain ⟨h1, h2⟩ := h.bo _ _ _ (h.get hl)
  exact ⟨by unfold getW; rw [if_pos (by simpa using hl)], h1, h2⟩
theorem beastOf_upd (f : BF) (s g : Int) (b : Beast) : beastOf (updB f s (some (g, b))) s = b := by unfold beastOf updB; rw [if_pos rfl]; rfl
theorem dropW_has {x : Int × Int} {k : Nat} (hl : liveB ls x.1 x.2 = true) (hk : k < 8) (ht : (beastOf f x.1).k.toNat.testBit k = true) : dropW ls f x (k : Int) = (updB f x.1 (some (x.2, dropB (beastOf f x.1) k)), 0) := by
  unfold dropW
  rw [if_neg (by simp [hl]), if_neg (by omega), Int.toNat_natCast, if_neg (by simp [ht])]
theorem dropW_none {x : Int × Int} {k : Nat} (hl : liveB ls x.1 x.2 = true) (hk : k < 8) (ht : (beastOf f x.1).k.toNat.testBit k = false) : dropW ls f x (k : Int) = (f, 5) := by
  unfold dropW
  rw [if_neg (by simp [hl]), if_neg (by omega), Int.toNat_natCast, if_pos ht]
theorem dropW_dead {x : Int × Int} (k : Int) (hl : liveB ls x.1 x.2 = false) : dropW ls f x k = (f, 7) := by unfold dropW; rw [if_pos (by simp [hl])]
theorem putW_yes {x : Int × Int} {k : Nat} {n : Int} (hl : liveB ls x.1 x.2 = true) (hk : k < 8) (hn : -1000000000 ≤ n ∧ n ≤ 1000000000) : putW ls f x (k : Int) n = (updB f x.1 (some (x.2, putB (beastOf f x.1) k n)), 0) := by
  unfold putW
  rw [if_neg (by simp [hl]), if_neg (by omega), Int.toNat_natCast]
theorem putW_dead {x : Int × Int} (k n : Int) (hl : liveB ls x.1 x.2 = false) : putW ls f x k n = (f, 7) := by unfold putW; rw [if_pos (by simp [hl])]
theorem killW_dead {x : Int × Int} (hl : liveB ls x.1 x.2 = false) : killW ls f x = ((ls, f), 7) := by unfold killW; rw [if_neg (by simp [hl])]
theorem getW_dead {x : Int × Int} (hl : liveB ls x.1 x.2 = false) : getW ls f x = (zeroBst, 7) := by unfold getW; rw [if_neg (by simp [hl])]
theorem allW_pos (h : WOk ls f) {x : Int × Int} (hl : liveB ls x.1 x.2 = true) : 0 < (allW ls f).length := by
  have h1 := h.get hl
  have : (⟨x, beastOf f x.1⟩ : RowM) ∈ allW ls f := (mem_allW h).2 h1
  exact List.length_pos_of_mem this
theorem m8_kinds {b : Beast} (hb : beastErr b = 0) : m8 b.k = b.k.toNat := by
  have hbk := ((beast_iff b).1 hb).1
  unfold m8; rw [Int.emod_eq_of_lt hbk.1 (by omega)]
end

end Go.Proofs.YtpgcghnlepnoiaaGreatDoor
