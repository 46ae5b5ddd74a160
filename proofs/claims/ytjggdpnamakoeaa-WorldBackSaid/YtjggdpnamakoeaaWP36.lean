/-
  Several texts in one (merged by a program of mine): WorldRows, WorldMade, WorldUse, WorldOrder.
-/
import Derived.Test.YtjggdpnamakoeaaWP35
/-
  The contract of world.Rows.
-/
namespace Go.Proofs.Ytjggdpnamakoeaa
open Go.RowKit Go.Sort

theorem flat_le {α : Type} (rw : Int → List α) : ∀ zs : List Int, (∀ K ∈ zs, (rw K).length ≤ 60) → (zs.flatMap rw).length ≤ 60 * zs.length
  | [], _ => by simp
  | K :: zs, h => by
    rw [List.flatMap_cons, List.length_append, List.length_cons]
    have h1 := h K (by simp)
    have h2 := flat_le rw zs fun K hK => h K (by simp [hK])
    omega
theorem ks_len {T : WT} (hn : T.ks.Nodup) (hk : ∀ K ∈ T.ks, 0 ≤ K ∧ K ≤ 255) : T.ks.length ≤ 256 := by
  have hsub : ∀ x ∈ T.ks, x ∈ (List.range 256).map (fun i : Nat => (i : Int)) := fun x hx => by
    have := hk x hx
    exact List.mem_map.2 ⟨x.toNat, List.mem_range.2 (by omega), by omega⟩
  have := nodup_le hn hsub
  simpa using this
theorem mkeys_pt (T : WT) : mkeys (T.ks.map fun K => (K, T.pt K)) = T.ks := by
  unfold mkeys
  rw [List.map_map]
  exact List.map_id _
def matchK (q : Query) (ks : List Int) (rw : Int → List RowM) (j : Nat) : List RowM := ((ks.take j).filter fun K => matchQ K q).flatMap rw
theorem matchK_succ (q : Query) (ks : List Int) (rw : Int → List RowM) (j : Nat) (h : j < ks.length) : matchK q ks rw (j + 1) = if matchQ ks[j] q = true then matchK q ks rw j ++ rw ks[j] else matchK q ks rw j := by
  unfold matchK
  rw [List.take_succ_eq_append_getElem h, List.filter_append, List.flatMap_append]
  by_cases hm : matchQ ks[j] q = true
  · rw [if_pos hm]; simp [hm]
  · rw [if_neg hm]; simp [hm]
theorem rowE_zero (r : RowM) : (rowE r)[0]? = some r.h.1 := rfl

def cmpR (a b : RowM) : Int := cmpI a.h.1 b.h.1
theorem swoR : SWO (ltOf cmpR) where
  irrefl x := by unfold ltOf cmpR; simp [cmpI_neg]
  trans x y z h1 h2 := by
    unfold ltOf cmpR at *
    simp only [cmpI_neg, decide_eq_true_eq] at *
    omega
  ntrans x y z h1 h2 := by
    unfold ltOf cmpR at *
    simp only [cmpI_neg, decide_eq_false_iff_not] at *
    omega
instance : Inhabited RowM := ⟨zeroRow⟩
theorem In.unpickT {G : Nat → Prop} {w0 w : World} {T : WT} {X : List Assn} {K : Int} (hK : K ∈ T.ks) (h : In G w0 (Tbl (T.pt K) K (T.rw K) :: (X ++ (T.ks.erase K).map (tblOf T))) w) : In G w0 (X ++ T.ks.map (tblOf T)) w :=
  h.perm ((List.Perm.append_left X ((List.perm_cons_erase hK).map (tblOf T))).trans List.perm_middle).symm
set_option maxRecDepth 100000 in
theorem rows1_any (x y : RowM) (w : World) : Calls Try.prog 39 #[.agg (ints (rowE x)), .agg (ints (rowE y))] w fun e w' => e = .returned (.int .i64 (cmpR x y)) ∧ ∃ q os, w' = Sort.grow (w.drewN q) os := by
  have HX : Hid ((ints (rowE x))[0]? = some (.int .i64 x.h.1)) := rfl
  have HY : Hid ((ints (rowE y))[0]? = some (.int .i64 y.h.1)) := rfl
  have HC : Hid (cmpR x y = cmpI x.h.1 y.h.1) := rfl
  generalize cmpR x y = cr at *
  generalize x.h.1 = x0 at *
  generalize y.h.1 = y0 at *
  generalize rowE x = xs at *
  generalize rowE y = ys at *
  go_enter Try.func39, Try.ntmps39
  go_upto_region 1 with (fail)
  have k1 : ((w.alloc (.cells (ints xs) 37)).alloc (.cells (ints ys) 37)).cell? ⟨w.heap.size, 0, none⟩ = some (.int .i64 x0) := (((Blk.new w 37 (ints xs)).alloc _).cell 0).trans HX.out
  have k2 : ((w.alloc (.cells (ints xs) 37)).alloc (.cells (ints ys) 37)).cell? ⟨w.heap.size + 1, 0, none⟩ = some (.int .i64 y0) := by
    have := Blk.new (w.alloc (.cells (ints xs) 37)) 37 (ints ys)
    rw [World.size_alloc] at this
    exact (this.cell 0).trans HY.out
  have HW : Hid (((w.alloc (.cells (ints xs) 37)).alloc (.cells (ints ys) 37)) = Sort.grow w #[.cells (ints xs) 37, .cells (ints ys) 37]) := by
    unfold Hid; rw [Sort.alloc_eq_grow, Sort.alloc_eq_grow, Sort.grow_grow]; rfl
  change Code.wp _ _ _ _ ((w.alloc (.cells (ints xs) 37)).alloc (.cells (ints ys) 37))
  generalize ((w.alloc (.cells (ints xs) 37)).alloc (.cells (ints ys) 37)) = w2 at *
  clear HX HY
  go_wp2_with fail
  refine (cmpInt_any x0 y0 w2).mono ?_
  rintro e w3 ⟨rfl, rfl⟩
  go_wp2_with fail
  go_ret
  refine ⟨ret_int HC.out.symm, 0, #[.cells (ints xs) 37, .cells (ints ys) 37], ?_⟩
  rw [HW.out]
  rfl
section
variable {G : Nat → Prop} {w0 w : World} {l : List Assn}
theorem sortR_in {v : Value} {xs : List RowM} (h : In G w0 (RowsA v xs :: l) w) (hl : xs.length ≤ 1099511627776) :
    Calls Try.prog 38 #[v, .func (.func 39) #[] #[]] w fun e w' => e = .returned (.tuple #[]) ∧ ∃ ys : List RowM, ys.Perm xs ∧ (ys.Pairwise fun a b => ¬ b.h.1 < a.h.1) ∧ In G w0 (RowsA v ys :: l) w' := by
  have h1 : ∀ x, ∀ u ∈ rowC x, u.oneCell' = true := fun x u hu => by obtain ⟨y, _, rfl⟩ := List.mem_map.1 hu; rfl
  have h2 : ∀ blk off size w, CmpLays Try.prog 39 #[] rowC 11 cmpR blk off size w := fun blk off size w m os dk _ x y => rows1_any x y (sortWorldK rowC 11 w blk off m dk os)
  have h3 : ∀ args w, (callFunc 39 args).run Try.prog w = .ok (.enter 39 args) w := enters_of Try.func39 (by kernel_rfl) rfl
  have hcon := sort_in (ρ := sortRow_ren) (enc := rowC) sortRow_lay Try.isAgg37 Try.sizeOf37 rowC_len h1 cmpR swoR 39 h3 h2 37 h (by omega)
  change Calls Try.prog 38 _ _ _ at hcon
  refine hcon.mono ?_
  rintro e w' ⟨rfl, ys, hp, hs, hI⟩
  exact ⟨rfl, ys, hp, hs.imp fun {a b} h hlt => by unfold cmpR at h; rw [decide_eq_false_iff_not, cmpI_neg] at h; exact h hlt, hI⟩
end
section
variable {G : Nat → Prop} {w0 w : World} {l : List Assn} {p : Nat} {ls : List (Int × Bool)} {f : BF}
set_option maxHeartbeats 8000000 in
set_option maxRecDepth 100000 in
theorem rows_in (h : In G w0 (WorldA p ls f :: l) w) (hk : WOk ls f) (q : Query) :
    Calls Try.prog 18 #[.pointer (some ⟨p, 0, none⟩), .agg (ints q.list)] w fun e w' => ∃ v, e = .returned (.tuple #[v, .int .i64 (queryErr q)]) ∧ In G w0 (RowsA v (if queryErr q = 0 then rowsW ls f q else []) :: WorldA p ls f :: l) w' := by
  have HI0 := Lib.hid h
  have HK := Lib.hid hk
  clear h hk
  obtain ⟨qe, hqe⟩ : ∃ x, queryErr q = x := ⟨_, rfl⟩
  rw [hqe]
  have HQE := Lib.hid hqe
  clear hqe
  go_enter Try.func18, Try.ntmps18
  go_upto_region 1 with (fail)
  refine wp_abs (In G w0 (WorldA p ls f :: Box w.heap.size 45 (ints q.list) :: l)) ((HI0.out.alloc 45 (ints q.list)).swap) ?_
  generalize w.heap.size = qb
  intro w1 hI1
  have q1 : row? w1 qb 0 3 = some (ints q.list) := hI1.swap.blk.row_all rfl
  have HI1 := Lib.hid hI1
  clear hI1 HI0
  go_wp2_with fail
  refine (checkQuery_any q w1).mono ?_
  rintro e w2 ⟨rfl, hb2⟩
  rw [HQE.out]
  have HI2 := Lib.hid (HI1.out.below hb2)
  clear hb2 HI1 q1
  by_cases hq : qe = 0
  case neg =>
    have HQ := Lib.hid hq
    go_wp2_with fail
    go_ret2
    refine ⟨.slice none 0 0, rfl, ?_⟩
    exact HI2.out.swap.drop.nilRow _ _
  case pos =>
    subst hq
    clear HQE
    obtain ⟨sp, tb, pb, T, hT, hI⟩ := HI2.out.openWorld
    have hI3 : In G w0 (Box p 61 #[.pointer (some ⟨sp, 0, none⟩), .map (some tb), .map (some pb)] :: SlotsA sp ls :: PtrMap tb (T.ks.map fun K => (K, T.pt K)) :: PlaceMap pb T.ps :: Box qb 45 (ints q.list) :: (l ++ T.ks.map (tblOf T))) w2 := hI
    have hkd : ∀ K ∈ T.ks, (0 ≤ K ∧ K ≤ 255) ∧ ∀ r ∈ T.rw K, r.b.k = K := fun K hK => tbl_kind (In.pickT (X := Box p 61 #[.pointer (some ⟨sp, 0, none⟩), .map (some tb), .map (some pb)] :: SlotsA sp ls :: PtrMap tb (T.ks.map fun K => (K, T.pt K)) :: PlaceMap pb T.ps :: Box qb 45 (ints q.list) :: l) hI3 hK)
    have HKD := Lib.hid hkd
    have HT := Lib.hid hT
    have HKL := Lib.hid (ks_len hT.nd fun K hK => (hkd K hK).1)
    have HI3 := Lib.hid hI3
    have k0 : w2.cell? ⟨p, 1, none⟩ = some (.map (some tb)) := hI3.blk.cell 1
    clear hT hI hI3 hkd HI2
    go_wp2_with fail
    refine (tkeys_any tb w2).mono ?_
    rintro e w3 ⟨rfl, rfl⟩
    have hI4 := (HI3.out.alloc 58 #[.map (some tb)])
    have hcol := tkeysCollect_any (m := T.ks.map fun K => (K, T.pt K)) hI4.blk (hI4.fourth.mapAt) (by rw [List.length_map]; have := HKL.out; omega)
    have HCOL := Lib.hid hcol
    have HI4 := Lib.hid hI4.drop
    clear hI4 hcol HI3 k0
    generalize w2.alloc (.cells #[.map (some tb)] 58) = w3 at *
    go_wp2_with fail
    refine HCOL.out.mono ?_
    rintro e w4 ⟨v4, ys, rfl, hp, ho, hb⟩
    rw [mkeys_pt] at hp
    have HP := Lib.hid hp
    have hyl : ys.length ≤ 256 := by rw [hp.length_eq]; exact HKL.out
    have HI5 : Hid (In G w0 (RowsA (.slice none 0 0) [] :: IntsA v4 ys :: Box p 61 #[.pointer (some ⟨sp, 0, none⟩), .map (some tb), .map (some pb)] :: SlotsA sp ls :: PtrMap tb (T.ks.map fun K => (K, T.pt K)) :: PlaceMap pb T.ps :: Box qb 45 (ints q.list) :: (l ++ T.ks.map (tblOf T))) w4) := (HI4.out.newInts ho hb).nilRow _ _
    obtain ⟨A4, c4, rfl, _⟩ := HI5.out.swap.intsAt
    clear ho hb HCOL HI4 hp
    obtain ⟨i0, hi0, hz0, hz1, hz2⟩ := info_parts row_parts
    have hyi : (ys.length : Int) ≤ 256 := by omega
    go_wp2_with fail
    go_loopw [26, 7] (fun i v w' => ∃ j : Nat, j ≤ ys.length ∧ i = .int .i64 j ∧ In G w0 (RowsA v (matchK q ys T.rw j) :: IntsA (.slice A4 ys.length c4) ys :: Box p 61 #[.pointer (some ⟨sp, 0, none⟩), .map (some tb), .map (some pb)] :: SlotsA sp ls :: PtrMap tb (T.ks.map fun K => (K, T.pt K)) :: PlaceMap pb T.ps :: Box qb 45 (ints q.list) :: (l ++ T.ks.map (tblOf T))) w') (fun i _ _ => ys.length - (intOf i).toNat)
    case atStart => exact ⟨0, by omega, rfl, HI5.out⟩
    case round =>
      clear HI5
      obtain ⟨j, hj, rfl, hI⟩ := hrel
      have HI := Lib.hid hI
      obtain ⟨A5, c5, hA5, hr5⟩ := hI.swap.intsAt
      injection hA5 with e1 e2 e3
      subst e1; subst e3
      have HR5 := Lib.hid hr5
      clear hI hr5 e2
      by_cases hlt : j < ys.length
      · have hji : (j : Int) < ys.length := by omega
        obtain ⟨g, o2, rfl, hgl, hkl2, hc2⟩ := HR5.out.at_ (k := j) hlt
        have HMS := Lib.hid (matchK_succ q ys T.rw j hlt)
        have hKm : ys[j] ∈ T.ks := HP.out.mem_iff.1 (List.getElem_mem hlt)
        generalize ys[j] = K at *
        have HKM := Lib.hid hKm
        have q1 : row? wr qb 0 3 = some (ints q.list) := (HI.out.nth 6 (by simp)).blk.row_all rfl
        clear HR5 hKm
        go_wp2_with fail
        refine (matchQ_any K q wr).mono ?_
        rintro e w5 ⟨rfl, hb5⟩
        have HI5 := Lib.hid (HI.out.below hb5)
        clear hb5 q1 hc2 HI
        cases hm : matchQ K q with
        | false =>
          rw [if_neg (by rw [hm]; simp)] at HMS
          clear hm
          go_wp2_with fail
          go_roundw
          case rel => exact ⟨j + 1, by omega, by go_num, by rw [HMS.out]; exact HI5.out⟩
          case measure => simp [intOf]; omega
        | true =>
          rw [if_pos hm] at HMS
          clear hm
          have k1 : w5.cell? ⟨p, 1, none⟩ = some (.map (some tb)) := (HI5.out.third).blk.cell 1
          have hmap := (HI5.out.nth 4 (by simp)).mapAt
          have hl1 := look_tbl hmap HKM.out (HKD.out K HKM.out).1 (Below.refl _ _)
          clear hmap
          have hl60 := HT.out.rows_len HKM.out
          have HI6 : Hid (In G w0 (Tbl (T.pt K) K (T.rw K) :: RowsA u7 (matchK q ys T.rw j) :: IntsA (.slice (some ⟨g, o2, none⟩) ys.length c4) ys :: Box p 61 #[.pointer (some ⟨sp, 0, none⟩), .map (some tb), .map (some pb)] :: SlotsA sp ls :: PtrMap tb (T.ks.map fun K => (K, T.pt K)) :: PlaceMap pb T.ps :: Box qb 45 (ints q.list) :: l ++ (T.ks.erase K).map (tblOf T)) w5) := In.pickT (X := RowsA u7 (matchK q ys T.rw j) :: IntsA (.slice (some ⟨g, o2, none⟩) ys.length c4) ys :: Box p 61 #[.pointer (some ⟨sp, 0, none⟩), .map (some tb), .map (some pb)] :: SlotsA sp ls :: PtrMap tb (T.ks.map fun K => (K, T.pt K)) :: PlaceMap pb T.ps :: Box qb 45 (ints q.list) :: l) HI5.out HKM.out
          have HH := Lib.hid (thandles_in HI6.out (by omega))
          go_wp2_with fail
          refine HH.out.mono ?_
          rintro e w6 ⟨hv, rfl, ho, hb6, hI7⟩
          obtain ⟨A6, c6, rfl, _, _, _⟩ := own_form ho
          have HI7 : Hid (In G w0 (RowsA u7 (matchK q ys T.rw j ++ (T.rw K).take 0) :: Tbl (T.pt K) K (T.rw K) :: IntsA (.slice (some ⟨g, o2, none⟩) ys.length c4) ys :: Box p 61 #[.pointer (some ⟨sp, 0, none⟩), .map (some tb), .map (some pb)] :: SlotsA sp ls :: PtrMap tb (T.ks.map fun K => (K, T.pt K)) :: PlaceMap pb T.ps :: Box qb 45 (ints q.list) :: l ++ (T.ks.erase K).map (tblOf T)) w6) := by
            rw [List.take_zero, List.append_nil]
            exact hI7.swap
          clear ho hb6 hI7 HI6 HI5 HH k1 hl1
          have hvl : ∀ r ∈ T.rw K, r.b.v.length = 8 := fun r hr => by
            obtain ⟨i, hi, hir⟩ := List.mem_iff_getElem.1 hr
            obtain ⟨h1, _⟩ := HT.out.at_ K HKM.out i r (by rw [List.getElem?_eq_getElem hi, hir])
            exact (HT.out.ok _ _ _ h1).2.1
          have HVL := Lib.hid hvl
          have hml : (matchK q ys T.rw j).length ≤ 60 * ((ys.take j).filter fun K => matchQ K q).length := flat_le T.rw _ fun K' hK' => HT.out.rows_len (HP.out.mem_iff.1 (List.mem_of_mem_take (List.mem_filter.1 hK').1))
          have hml2 : ((ys.take j).filter fun K => matchQ K q).length ≤ 256 := Nat.le_trans (List.length_filter_le _ _) (by rw [List.length_take]; omega)
          have HML : Hid ((matchK q ys T.rw j).length ≤ 15360) := by unfold Hid; omega
          clear hvl hml hml2
          generalize matchK q ys T.rw j = done at *
          have hri : ((T.rw K).length : Int) ≤ 60 := by omega
          go_wp2_with fail
          go_loopw [43, 7] (fun i v w' => ∃ k : Nat, k ≤ (T.rw K).length ∧ i = .int .i64 k ∧ In G w0 (RowsA v (done ++ (T.rw K).take k) :: Tbl (T.pt K) K (T.rw K) :: IntsA (.slice (some ⟨g, o2, none⟩) ys.length c4) ys :: Box p 61 #[.pointer (some ⟨sp, 0, none⟩), .map (some tb), .map (some pb)] :: SlotsA sp ls :: PtrMap tb (T.ks.map fun K => (K, T.pt K)) :: PlaceMap pb T.ps :: Box qb 45 (ints q.list) :: l ++ (T.ks.erase K).map (tblOf T)) w') (fun i _ _ => (T.rw K).length - (intOf i).toNat)
          case atStart => exact ⟨0, by omega, rfl, HI7.out⟩
          case round =>
            clear HI7
            obtain ⟨k, hk, rfl, hI⟩ := hrel
            have HI := Lib.hid hI
            clear hI
            by_cases hkl : k < (T.rw K).length
            · have hki : (k : Int) < (T.rw K).length := by omega
              have HRR : Hid (rowR (T.rw K) (k : Int) = ((T.rw K)[k], 0)) := by
                unfold Hid rowR isRowB
                have h1 : decide (0 ≤ (k : Int)) = true := decide_eq_true (by omega)
                have h2 : decide ((k : Int) < ((T.rw K).length : Nat)) = true := decide_eq_true (by omega)
                rw [h1, h2, Int.toNat_natCast, List.getD_eq_getElem?_getD, List.getElem?_eq_getElem hkl]; rfl
              have HR := Lib.hid (trow_in HI.out.swap (k : Int) (by omega))
              rw [HRR.out] at HR
              have HTK : Hid (done ++ (T.rw K).take (k + 1) = (done ++ (T.rw K).take k) ++ [(T.rw K)[k]]) := by unfold Hid; rw [List.take_succ_eq_append_getElem hkl, List.append_assoc]
              have hx11 : ((T.rw K)[k]).list.length = 11 := by
                have h8 := HVL.out _ (List.getElem_mem hkl)
                simp [RowM.list, Beast.list, h8]
              have HRC : Hid (rowC (T.rw K)[k] = ((T.rw K)[k]).list.map (Value.int .i64)) := by unfold Hid rowC rowE; rw [fixL_eq hx11]
              have hcl : (done ++ (T.rw K).take k).length ≤ 20000 := by rw [List.length_append, List.length_take]; have := HML.out; omega
              generalize (T.rw K)[k] = r at *
              have HX11 := Lib.hid hx11
              generalize hxs : r.list = xs at *
              generalize done ++ (T.rw K).take k = cur at *
              clear hx11 hxs
              have hxl : xs.length = 11 := HX11.out
              go_wp2_with fail
              refine HR.out.mono ?_
              rintro e w8 ⟨rfl, _, hI8⟩
              have HI8 := Lib.hid hI8.swap
              clear hI8 HR HI HRR
              go_upto_region 14 with (fail)
              refine wp_abs (In G w0 (Box w8.heap.size 37 (ints xs) :: RowsA u7 cur :: Tbl (T.pt K) K (T.rw K) :: IntsA (.slice (some ⟨g, o2, none⟩) ys.length c4) ys :: Box p 61 #[.pointer (some ⟨sp, 0, none⟩), .map (some tb), .map (some pb)] :: SlotsA sp ls :: PtrMap tb (T.ks.map fun K => (K, T.pt K)) :: PlaceMap pb T.ps :: Box qb 45 (ints q.list) :: l ++ (T.ks.erase K).map (tblOf T))) (HI8.out.struct 37 [0, 0, 0, 0, 0, 0, 0, 0, 0, 0, 0] xs hxl) ?_
              generalize w8.heap.size = rb
              intro w9 hI9
              have d3 : row? w9 rb 0 11 = some (ints xs) := hI9.blk.row_all hxl
              have HI9 := Lib.hid hI9.drop
              have HOW := Lib.hid hI9.drop.rowAt
              have hone : ∀ u ∈ xs.map (Value.int .i64), u.oneCell' = true := by
                intro u hu; obtain ⟨y, _, rfl⟩ := List.mem_map.1 hu; rfl
              have HONE := Lib.hid hone
              clear hI9 hone HI8
              go_wp2_with (at_builtin; go_loud (refine wpList_append1_at rfl _ _ _ rfl 0 37 i0 _ 11 88 Try.underlying28 hi0 hz0 hz1 hz2 rfl (by decide) _ cur.length _ rfl HOW.out (xs.map (Value.int .i64)) rfl (by rw [List.length_map]; exact HX11.out) HONE.out (by unfold maxLen; omega) (by omega) (Nat.zero_le _) ?_))
              intro v' w10 hown7 hg7 hat7
              have hI10 := In.append1 HI9.out hown7 hg7 hat7
              have hI11 : In G w0 (RowsA v' (cur ++ [r]) :: Tbl (T.pt K) K (T.rw K) :: IntsA (.slice (some ⟨g, o2, none⟩) ys.length c4) ys :: Box p 61 #[.pointer (some ⟨sp, 0, none⟩), .map (some tb), .map (some pb)] :: SlotsA sp ls :: PtrMap tb (T.ks.map fun K => (K, T.pt K)) :: PlaceMap pb T.ps :: Box qb 45 (ints q.list) :: l ++ (T.ks.erase K).map (tblOf T)) w10 := by
                unfold RowsA
                rw [List.length_append, List.flatMap_append, List.flatMap_cons, List.flatMap_nil, List.append_nil, HRC.out]
                exact hI10
              have HI11 := Lib.hid hI11
              clear hown7 hg7 hat7 hI10 hI11 d3 HI9 HOW
              go_wp2_with fail
              go_roundw
              case rel => exact ⟨k + 1, by omega, by go_num, by rw [HTK.out]; exact HI11.out⟩
              case measure => simp [intOf]; omega
            · have hkm : k = (T.rw K).length := by omega
              subst hkm
              rw [List.take_length, ← HMS.out] at HI
              have hI12 : In G w0 (Tbl (T.pt K) K (T.rw K) :: (RowsA u7 (matchK q ys T.rw (j + 1)) :: IntsA (.slice (some ⟨g, o2, none⟩) ys.length c4) ys :: Box p 61 #[.pointer (some ⟨sp, 0, none⟩), .map (some tb), .map (some pb)] :: SlotsA sp ls :: PtrMap tb (T.ks.map fun K => (K, T.pt K)) :: PlaceMap pb T.ps :: Box qb 45 (ints q.list) :: l ++ (T.ks.erase K).map (tblOf T))) wr := HI.out.swap
              go_wp2_with fail
              go_roundw
              case rel => exact ⟨j + 1, by omega, by go_num, In.unpickT (X := RowsA u7 (matchK q ys T.rw (j + 1)) :: IntsA (.slice (some ⟨g, o2, none⟩) ys.length c4) ys :: Box p 61 #[.pointer (some ⟨sp, 0, none⟩), .map (some tb), .map (some pb)] :: SlotsA sp ls :: PtrMap tb (T.ks.map fun K => (K, T.pt K)) :: PlaceMap pb T.ps :: Box qb 45 (ints q.list) :: l) HKM.out hI12⟩
              case measure => simp [intOf]; omega
      · have hjm : j = ys.length := by omega
        subst hjm
        have HMA : Hid (matchK q ys T.rw ys.length = (ys.filter fun K => matchQ K q).flatMap T.rw) := by unfold Hid matchK; rw [List.take_length]
        have hml : ((ys.filter fun K => matchQ K q).flatMap T.rw).length ≤ 60 * (ys.filter fun K => matchQ K q).length := flat_le T.rw _ fun K' hK' => HT.out.rows_len (HP.out.mem_iff.1 (List.mem_filter.1 hK').1)
        have hml2 : (ys.filter fun K => matchQ K q).length ≤ 256 := Nat.le_trans (List.length_filter_le _ _) (by omega)
        rw [HMA.out] at HI
        have hso := sortR_in HI.out (by omega)
        have HSO := Lib.hid hso
        clear hso hml hml2
        go_wp2_with fail
        refine HSO.out.mono ?_
        rintro e w8 ⟨rfl, zs, hzp, hzs, hI9⟩
        have hfin : zs = rowsW ls f q := tables_sort HT.out HK.out (fun K hK => (HKD.out K hK).2) q HP.out hzp (hzs.imp fun {a b} h => by omega)
        rw [hfin] at hI9
        have HI9 := Lib.hid hI9
        clear hI9 hfin hzp hzs HSO HI HMA
        go_wp2_with fail
        go_ret2
        refine ⟨_, rfl, ?_⟩
        have hI10 := HI9.out.swap.drop
        exact (In.shutWorld (l := Box qb 45 (ints q.list) :: RowsA u7 (rowsW ls f q) :: l) HT.out (hI10.reorder 6 [1, 2, 3, 4, 5, 0] rfl (by simp))).swap.drop.swap
end

end Go.Proofs.Ytjggdpnamakoeaa

/-
  The closed fact 'lived'; 'made': a world by some ops; 'all': its rows.
-/
namespace Go.Proofs.Ytjggdpnamakoeaa
open Go.RowKit

theorem zeroQ_list : zeroQ.list = [0, 0, 0] := rfl
theorem matchZero (k : Int) : matchQ k zeroQ = true := by
  exact matches_none k
theorem zeroQ_err : queryErr zeroQ = 0 := by decide
section
variable {G : Nat → Prop} {w0 w : World} {l : List Assn} {p : Nat} {ls : List (Int × Bool)} {f : BF}
theorem all_in (h : In G w0 (WorldA p ls f :: l) w) (hk : WOk ls f) :
    Calls Try.prog 11 #[.pointer (some ⟨p, 0, none⟩)] w fun e w' => ∃ v, e = .returned v ∧ In G w0 (RowsA v (allW ls f) :: WorldA p ls f :: l) w' := by
  have HR := Lib.hid (rows_in h hk zeroQ)
  rw [zeroQ_err, if_pos rfl, rows_all matchZero, zeroQ_list] at HR
  clear h hk
  go_enter Try.func11, Try.ntmps11
  go_wp2_with fail
  refine HR.out.mono ?_
  rintro e w1 ⟨v, rfl, hI⟩
  have HI := Lib.hid hI
  clear hI HR
  go_wp2_with fail
  go_ret
  exact ⟨v, rfl, HI.out⟩
end
set_option maxHeartbeats 2000000 in
set_option maxRecDepth 100000 in
theorem made_in {w w1 : World} {l : List Assn} {A : Option Addr} {c : Nat} {os : List OpM} (H : OpsIn w w.heap.size A os) (hlen : os.length ≤ 1099511627776) (hb8 : ∀ o ∈ os, o.b.v.length = 8) (hI : In (fun _ => False) w l w1) :
    Calls Try.prog 10 #[.slice A os.length c] w1 fun e w' => ∃ p, e = .returned (.pointer (some ⟨p, 0, none⟩)) ∧ In (fun _ => False) w (WorldA p (madeW os).1 (madeW os).2 :: l) w' := by
  have H := Lib.hid H
  have HI0 := Lib.hid hI
  have H8 := Lib.hid hb8
  clear hI hb8
  go_enter Try.func10, Try.ntmps10
  go_wp2_with fail
  refine (wnew_in HI0.out).mono ?_
  rintro e w2 ⟨p, rfl, hI⟩
  have HI1 := Lib.hid hI
  clear hI HI0
  go_wp2_with fail
  go_loopw [11] (fun i w' => ∃ k : Nat, k ≤ os.length ∧ i = .int .i64 k ∧ In (fun _ => False) w (WorldA p (madeTo os k).1 (madeTo os k).2 :: l) w') (fun i _ => os.length - (intOf i).toNat)
  case atStart => exact ⟨0, Nat.zero_le _, rfl, HI1.out⟩
  case round =>
    clear HI1
    obtain ⟨k, hk, rfl, hI⟩ := hrel
    have HI := Lib.hid hI
    clear hI
    by_cases hlt : k < os.length
    · have hki : (k : Int) < os.length := by omega
      obtain ⟨b, o, rfl, hbl, q1⟩ := (H.out.below HI.out.below0).at_ hlt
      have HS : Hid (madeTo os (k + 1) = doW (madeTo os k) os[k]) := madeTo_succ os k hlt
      have HOK : Hid (WOk (madeTo os k).1 (madeTo os k).2) := madeW_ok fun o ho => H8.out o (List.mem_of_mem_take ho)
      have h16 : (OpM.list os[k]).length = 16 := OpM.len (H8.out _ (List.getElem_mem hlt))
      generalize os[k] = op at *
      generalize madeTo os k = st at *
      obtain ⟨ls, f⟩ := st
      go_upto_region 7 with (fail)
      refine wp_abs (In (fun _ => False) w (Box wr.heap.size 69 (ints op.list) :: WorldA p ls f :: l)) (HI.out.struct 69 [0, 0, 0, 0, 0, 0, 0, 0, 0, 0, 0, 0, 0, 0, 0, 0] op.list h16) ?_
      generalize wr.heap.size = ob
      intro w3 hI3
      obtain ⟨d, ⟨bk, bv⟩, ⟨a1, a2⟩, ⟨t1, t2⟩, kk, nn⟩ := op
      have hv8 : bv.length = 8 := by simpa [OpM.list, Beast.list] using h16
      have hdrop : (OpM.list ⟨d, ⟨bk, bv⟩, (a1, a2), (t1, t2), kk, nn⟩).drop 10 = [a1, a2, t1, t2, kk, nn] := by
        have : (OpM.list ⟨d, ⟨bk, bv⟩, (a1, a2), (t1, t2), kk, nn⟩) = ([d] ++ (bk :: bv)) ++ [a1, a2, t1, t2, kk, nn] := rfl
        rw [this, List.drop_left' (by simp [hv8])]
      have q2 : row? w3 ob 10 2 = some (ints [a1, a2]) := by
        rw [hI3.blk.row_ints 10 2 (by omega), hdrop]; rfl
      have q5 : row? w3 ob 1 9 = some (ints (Beast.list ⟨bk, bv⟩)) := by
        rw [hI3.blk.row_ints 1 9 (by omega)]
        have : (OpM.list ⟨d, ⟨bk, bv⟩, (a1, a2), (t1, t2), kk, nn⟩).drop 1 = Beast.list ⟨bk, bv⟩ ++ [a1, a2, t1, t2, kk, nn] := rfl
        rw [this, List.take_left' (by simp [Beast.list, hv8])]
      have q14 : w3.cell? ⟨ob, 14, none⟩ = some (.int .i64 kk) := by
        refine cell_row0 (n := 1) (xs := []) ?_
        rw [hI3.blk.row_ints 14 1 (by omega), show (14 : Nat) = 10 + 4 from rfl, ← List.drop_drop, hdrop]; rfl
      have q15 : w3.cell? ⟨ob, 15, none⟩ = some (.int .i64 nn) := by
        refine cell_row0 (n := 1) (xs := []) ?_
        rw [hI3.blk.row_ints 15 1 (by omega), show (15 : Nat) = 10 + 5 from rfl, ← List.drop_drop, hdrop]; rfl
      have q0 : w3.cell? ⟨ob, 0, none⟩ = some (.int .i64 d) := hI3.blk.cell 0
      have HI3 := Lib.hid hI3.swap
      clear hI3 q1 hdrop HI h16
      have HV8 := Lib.hid hv8
      clear hv8
      by_cases h1 : d = 1
      · have hd : (d == 1) = true := by simp [h1]
        have HG : Hid (doW (ls, f) ⟨d, ⟨bk, bv⟩, (a1, a2), (t1, t2), kk, nn⟩ = (spawnW ls f ⟨bk, bv⟩).1) := by unfold Hid doW; rw [if_pos h1]
        clear h1
        go_wp2_with fail
        refine (spawn_in HI3.out HOK.out ⟨bk, bv⟩ HV8.out).mono ?_
        rintro e w4 ⟨rfl, hI4⟩
        have HI4 := Lib.hid hI4
        clear hI4
        go_wp2_with fail
        go_roundw
        case rel => exact ⟨k + 1, by omega, by go_num, by rw [HS.out, HG.out]; exact HI4.out.swap.drop⟩
        case measure => simp [intOf]; omega
      · have hd : (d == 1) = false := by simp [h1]
        by_cases h2 : d = 2
        · have hd2 : (d == 2) = true := by simp [h2]
          have HG : Hid (doW (ls, f) ⟨d, ⟨bk, bv⟩, (a1, a2), (t1, t2), kk, nn⟩ = (killW ls f (a1, a2)).1) := by unfold Hid doW; rw [if_neg h1, if_pos h2]
          clear h1 h2
          go_wp2_with fail
          refine (kill_in HI3.out HOK.out a1 a2).mono ?_
          rintro e w4 ⟨rfl, hI4⟩
          have HI4 := Lib.hid hI4
          clear hI4
          go_wp2_with fail
          go_roundw
          case rel => exact ⟨k + 1, by omega, by go_num, by rw [HS.out, HG.out]; exact HI4.out.swap.drop⟩
          case measure => simp [intOf]; omega
        · have hd2 : (d == 2) = false := by simp [h2]
          by_cases h3 : d = 3
          · have hd3 : (d == 3) = true := by simp [h3]
            have HG : Hid (doW (ls, f) ⟨d, ⟨bk, bv⟩, (a1, a2), (t1, t2), kk, nn⟩ = (ls, (putW ls f (a1, a2) kk nn).1)) := by unfold Hid doW; rw [if_neg h1, if_neg h2, if_pos h3]
            clear h1 h2 h3
            go_wp2_with fail
            refine (put_in HI3.out HOK.out a1 a2 kk nn).mono ?_
            rintro e w4 ⟨rfl, hI4⟩
            have HI4 := Lib.hid hI4
            clear hI4
            go_wp2_with fail
            go_roundw
            case rel => exact ⟨k + 1, by omega, by go_num, by rw [HS.out, HG.out]; exact HI4.out.swap.drop⟩
            case measure => simp [intOf]; omega
          · have hd3 : (d == 3) = false := by simp [h3]
            by_cases h4 : d = 4
            · have hd4 : (d == 4) = true := by simp [h4]
              have HG : Hid (doW (ls, f) ⟨d, ⟨bk, bv⟩, (a1, a2), (t1, t2), kk, nn⟩ = (ls, (dropW ls f (a1, a2) kk).1)) := by unfold Hid doW; rw [if_neg h1, if_neg h2, if_neg h3, if_pos h4]
              clear h1 h2 h3 h4
              go_wp2_with fail
              refine (drop_in HI3.out HOK.out a1 a2 kk).mono ?_
              rintro e w4 ⟨rfl, hI4⟩
              have HI4 := Lib.hid hI4
              clear hI4
              go_wp2_with fail
              go_roundw
              case rel => exact ⟨k + 1, by omega, by go_num, by rw [HS.out, HG.out]; exact HI4.out.swap.drop⟩
              case measure => simp [intOf]; omega
            · have hd4 : (d == 4) = false := by simp [h4]
              have HG : Hid (doW (ls, f) ⟨d, ⟨bk, bv⟩, (a1, a2), (t1, t2), kk, nn⟩ = (ls, f)) := by unfold Hid doW; rw [if_neg h1, if_neg h2, if_neg h3, if_neg h4]
              clear h1 h2 h3 h4
              go_wp2_with fail
              go_roundw
              case rel => exact ⟨k + 1, by omega, by go_num, by rw [HS.out, HG.out]; exact HI3.out.swap.drop⟩
              case measure => simp [intOf]; omega
    · have : k = os.length := by omega
      subst this
      have HF : Hid (madeTo os os.length = madeW os) := by unfold Hid madeTo; rw [List.take_length]
      rw [HF.out] at HI
      go_wp2_with fail
      go_ret
      exact ⟨p, rfl, HI.out⟩
def lvB : Beast := ⟨2, [0, 0, 0, 0, 0, 0, 0, 0]⟩
set_option maxRecDepth 100000 in
theorem lived_any (w : World) : Calls Try.prog 9 #[] w fun e w' => e = .returned (.bool true) ∧ Below w.heap.size w w' := by
  have hok := WOk.nil.spawn (b := lvB) rfl
  have hsp := fun {G w0 l p w} (h : In G w0 (WorldA p [] (fun _ => none) :: l) w) => spawn_in h WOk.nil lvB rfl
  have HSW : Hid (spawnW [] (fun _ => none) lvB = (([(0, true)], updB (fun _ => none) 0 (some (0, lvB))), (0, 0), 0)) := rfl
  rw [HSW.out] at hok
  have HOK := Lib.hid hok
  have HPW : Hid (putW [(0, true)] (updB (fun _ => none) 0 (some (0, lvB))) (0, 0) 0 5 = (updB (updB (fun _ => none) 0 (some (0, lvB))) 0 (some (0, putB lvB 0 5)), 0)) := rfl
  have hok2 := hok.put (0, 0) 0 5
  rw [HPW.out] at hok2
  have HOK2 := Lib.hid hok2
  have HGW : Hid (getW [(0, true)] (updB (updB (fun _ => none) 0 (some (0, lvB))) 0 (some (0, putB lvB 0 5))) (0, 0) = (⟨3, [5, 0, 0, 0, 0, 0, 0, 0]⟩, 0)) := rfl
  clear hok hok2 hsp
  have heq : ∀ W, (binOp .eql 35 (.agg #[.int .i64 3, .int .i64 5, .int .i64 0, .int .i64 0, .int .i64 0, .int .i64 0, .int .i64 0, .int .i64 0, .int .i64 0]) (.agg #[.int .i64 3, .int .i64 5, .int .i64 0, .int .i64 0, .int .i64 0, .int .i64 0, .int .i64 0, .int .i64 0, .int .i64 0])).run Try.prog W = .ok (.bool true) W := fun W => by kernel_rfl
  have heq2 : ∀ W, (binOp .eql 35 (.agg (ints [3, 5, 0, 0, 0, 0, 0, 0, 0])) (.agg #[.int .i64 3, .int .i64 5, .int .i64 0, .int .i64 0, .int .i64 0, .int .i64 0, .int .i64 0, .int .i64 0, .int .i64 0])).run Try.prog W = .ok (.bool true) W := fun W => by kernel_rfl
  have heq3 : ∀ W, (binOp .eql 35 (.agg (ints [3, 5, 0, 0, 0, 0, 0, 0, 0])) (.agg (ints [3, 5, 0, 0, 0, 0, 0, 0, 0]))).run Try.prog W = .ok (.bool true) W := fun W => by kernel_rfl
  go_enter Try.func9, Try.ntmps9
  go_wp2_with fail
  refine (wnew_in (In.nil w (fun _ => False))).mono ?_
  rintro e w1 ⟨p, rfl, hI⟩
  have HI1 := Lib.hid hI
  clear hI
  go_wp2_with fail
  refine (spawn_in HI1.out WOk.nil lvB rfl).mono ?_
  rintro e w2 ⟨rfl, hI⟩
  rw [HSW.out] at hI ⊢
  have HI2 := Lib.hid hI
  clear hI HI1
  go_upto_region 5 with (fail)
  refine wp_abs (In (fun _ => False) w [Box w2.heap.size 24 (ints [0, 0]), WorldA p [(0, true)] (updB (fun _ => none) 0 (some (0, lvB)))]) (HI2.out.struct 24 [0, 0] [0, 0] rfl) ?_
  generalize w2.heap.size = hb
  intro w3 hI3
  have q1 : row? w3 hb 0 2 = some (ints [0, 0]) := hI3.blk.row_all rfl
  have HI3 := Lib.hid hI3.swap
  clear hI3 HI2
  go_wp2_with fail
  refine (put_in HI3.out HOK.out 0 0 0 5).mono ?_
  rintro e w4 ⟨rfl, hI⟩
  rw [HPW.out] at hI ⊢
  have HI4 := Lib.hid hI
  have q2 : row? w4 hb 0 2 = some (ints [0, 0]) := hI.swap.blk.row_all rfl
  clear hI HI3 q1
  go_wp2_with fail
  refine (get_in HI4.out HOK2.out 0 0).mono ?_
  rintro e w5 ⟨rfl, hI⟩
  rw [HGW.out]
  have HI5 := Lib.hid hI
  clear hI HI4 q2
  go_upto_region 7 with (fail)
  refine wp_abs (In (fun _ => False) w [Box w5.heap.size 35 (ints [3, 5, 0, 0, 0, 0, 0, 0, 0]), WorldA p [(0, true)] (updB (updB (fun _ => none) 0 (some (0, lvB))) 0 (some (0, putB lvB 0 5))), Box hb 24 (ints [0, 0])]) (HI5.out.struct 35 [0, 0, 0, 0, 0, 0, 0, 0, 0] [3, 5, 0, 0, 0, 0, 0, 0, 0] rfl) ?_
  generalize w5.heap.size = bb
  intro w6 hI6
  have q3 : row? w6 bb 0 9 = some (ints [3, 5, 0, 0, 0, 0, 0, 0, 0]) := hI6.blk.row_all rfl
  have HB := Lib.hid hI6.below0
  clear hI6 HI5
  go_wp2_with fail
  go_ret
  exact ⟨rfl, HB.out⟩

end Go.Proofs.Ytjggdpnamakoeaa

/-
  Rows of a world handed to vivariumref.Has and Eq; the generations of a world.
-/
namespace Go.Proofs.Ytjggdpnamakoeaa
open Go.RowKit

noncomputable instance : DecidableEq RowM := fun a b => Classical.propDecidable (a = b)
theorem rowE_inj {r s : RowM} (hr : r.b.v.length = 8) (hs : s.b.v.length = 8) (h : rowE r = rowE s) : r = s := by
  rw [rowE_eq hr, rowE_eq hs] at h
  obtain ⟨⟨a, b⟩, ⟨k, v⟩⟩ := r
  obtain ⟨⟨a', b'⟩, ⟨k', v'⟩⟩ := s
  unfold RowM.list Beast.list at h
  simp only [List.cons.injEq] at h
  obtain ⟨rfl, rfl, rfl, rfl⟩ := h
  rfl
section
variable {ls : List (Int × Bool)} {f : BF}
theorem allW_ok (h : WOk ls f) {r : RowM} (hr : r ∈ allW ls f) : r.b.v.length = 8 ∧ beastErr r.b = 0 ∧ liveB ls r.h.1 r.h.2 = true ∧ f r.h.1 = some (r.h.2, r.b) := by
  have h1 := (mem_allW h).1 hr
  obtain ⟨h2, h3⟩ := h.bo _ _ _ h1
  exact ⟨h3, h2, (h.lv _ _).2 ⟨_, h1⟩, h1⟩
theorem allW_slot (h : WOk ls f) {r : RowM} (hr : r ∈ allW ls f) : ∃ s : Nat, r.h.1 = (s : Int) ∧ s < ls.length ∧ (gensL ls).getD s 0 = r.h.2 := by
  obtain ⟨_, _, h1, _⟩ := allW_ok h hr
  obtain ⟨k, e1, e2, e3⟩ := live_true h1
  refine ⟨k, e1, e2, ?_⟩
  rw [gensL_map, List.getD_eq_getElem?_getD, List.getElem?_map, List.getElem?_eq_getElem e2]
  rw [List.getD_eq_getElem?_getD, List.getElem?_eq_getElem e2] at e3
  simp only [Option.getD_some] at e3
  simp [e3]
theorem gensL_len (ls : List (Int × Bool)) : (gensL ls).length = ls.length := by rw [gensL_map, List.length_map]
theorem allW_len (h : WOk ls f) : (allW ls f).length ≤ 60 := by
  have := rowsW_len ls f zeroQ
  rw [rows_all matchZero] at this
  have := h.so.1
  omega
theorem getW_row (h : WOk ls f) {r : RowM} (hr : r ∈ allW ls f) : getW ls f r.h = (r.b, 0) := by
  obtain ⟨_, _, h1, h2⟩ := allW_ok h hr
  unfold getW beastOf
  rw [if_pos (by simpa using h1), h2]; rfl
end
section
variable {G : Nat → Prop} {w0 w : World} {l : List Assn} {v u : Value}
theorem rowsA_chunks {rs : List RowM} (h : In G w0 (RowsA v rs :: l) w) : ∃ A c, v = .slice A rs.length c ∧ rs.length ≤ c ∧ c ≤ maxLen ∧ Chunks w w.heap.size 11 A (rs.map rowE) ∧ (0 < rs.length → ∃ g, A = some ⟨g, 0, none⟩) :=
  own_chunks (f := rowE) (fun _ => rfl) rowE_len h.rowAt
theorem eqR_in {a b : List RowM} (h : In G w0 (RowsA v a :: l) w) {l' : List Assn} {G' : Nat → Prop} {w0' : World} (h' : In G' w0' (RowsA u b :: l') w) : Calls Try.prog 13 #[v, u] w fun e w' => e = .returned (.bool (decide (a.map rowE = b.map rowE))) ∧ Below w.heap.size w w' := by
  obtain ⟨A, c, rfl, hc1, hc2, hch, _⟩ := rowsA_chunks h
  obtain ⟨A', c', rfl, hc1', hc2', hch', _⟩ := rowsA_chunks h'
  have := eqRow_any A A' c c' (a.map rowE) (b.map rowE) w hch hch' (by rw [List.length_map]; omega) (by rw [List.length_map]; omega)
  rw [List.length_map, List.length_map] at this
  exact this
theorem eqR_same {a b : List RowM} (h : In G w0 (RowsA v a :: l) w) {l' : List Assn} {G' : Nat → Prop} {w0' : World} (h' : In G' w0' (RowsA u b :: l') w) (e : a = b) : Calls Try.prog 13 #[v, u] w fun e w' => e = .returned (.bool true) ∧ Below w.heap.size w w' := by
  have := eqR_in h h'
  rw [decide_eq_true (by rw [e])] at this
  exact this
theorem hasR_in {a : List RowM} (h : In G w0 (RowsA v a :: l) w) (r : RowM) (hr : r.b.v.length = 8) (ha : ∀ x ∈ a, x.b.v.length = 8) : Calls Try.prog 19 #[v, .agg (ints r.list)] w fun e w' => e = .returned (.bool (decide (r ∈ a))) ∧ Below w.heap.size w w' := by
  obtain ⟨A, c, rfl, hc1, hc2, hch, _⟩ := rowsA_chunks h
  have := hasRow_any A c (a.map rowE) (rowE r) w hch (by rw [List.length_map]; omega) (rowE_len r)
  have hd : decide (rowE r ∈ a.map rowE) = decide (r ∈ a) := by
    rw [Bool.eq_iff_iff, decide_eq_true_eq, decide_eq_true_eq, List.mem_map]
    exact ⟨fun ⟨y, hy, e⟩ => by rw [← rowE_inj (ha y hy) hr e]; exact hy, fun h => ⟨r, h, rfl⟩⟩
  rw [List.length_map, hd, rowE_eq hr] at this
  exact this
variable {p : Nat} {ls : List (Int × Bool)} {f : BF}
/-- the slots of a world -/
theorem In.slotsOf (h : In G w0 (WorldA p ls f :: l) w) : ∃ sp F, (∀ n : After w, n.w.cell? ⟨p, 0, none⟩ = some (.pointer (some ⟨sp, 0, none⟩))) ∧ (∀ n : After w, SlotsAt n.w sp ls F) := by
  obtain ⟨sp, tb, pb, T, hT, hI⟩ := h.openWorld
  obtain ⟨F1, hS⟩ := hI.swap.head
  exact ⟨sp, F1, fun n => (hI.blk.after n.below).cell 0, fun n => ColAt.after hS n.below⟩
end

end Go.Proofs.Ytjggdpnamakoeaa

/-
  The walk of the law WorldOrder.
-/
namespace Go.Proofs.Ytjggdpnamakoeaa
open Go.RowKit

set_option maxHeartbeats 4000000 in
set_option maxRecDepth 100000 in
theorem worldOrder_any (A : Option Addr) (c : Nat) (os : List OpM) (w : World) (H : OpsIn w w.heap.size A os) (hlen : os.length ≤ 1099511627776) (hb8 : ∀ o ∈ os, o.b.v.length = 8) :
    Calls Try.prog 7 #[.slice A os.length c] w fun e w' => e = .returned (.bool true) ∧ Below w.heap.size w w' := by
  have H := Lib.hid H
  have H8 := Lib.hid hb8
  clear hb8
  go_enter Try.func7, Try.ntmps7
  go_wp2_with fail
  refine (lived_any w).mono ?_
  rintro e w1 ⟨rfl, hb1⟩
  have HI1 : Hid (In (fun _ => False) w [] w1) := (In.nil w _).below hb1
  clear hb1
  go_wp2_with fail
  refine (made_in H.out hlen H8.out HI1.out).mono ?_
  rintro e w2 ⟨p, rfl, hI⟩
  have HOK : Hid (WOk (madeW os).1 (madeW os).2) := madeW_ok H8.out
  generalize madeW os = st at *
  obtain ⟨ls, f⟩ := st
  have HI2 := Lib.hid hI
  clear hI HI1 H8 H hlen
  go_wp2_with fail
  refine (all_in HI2.out HOK.out).mono ?_
  rintro e w3 ⟨v, rfl, hI⟩
  have HI3 := Lib.hid hI
  obtain ⟨sp, F, hc, hs⟩ := hI.swap.slotsOf
  have c0 := hc ⟨w3, Below.refl _ _⟩
  have HG := Lib.hid (gens_any sp ls F w3 (hs ⟨w3, Below.refl _ _⟩) HOK.out.so.1)
  clear hI HI2 hc hs
  go_wp2_with fail
  refine HG.out.mono ?_
  rintro e w4 ⟨gv, rfl, ho, hb4⟩
  have hI4 := HI3.out.newInts ho hb4
  obtain ⟨gA, gc, rfl, _⟩ := hI4.intsAt
  obtain ⟨rA, rc, rfl, hrc1, hrc2, _⟩ := hI4.swap.rowsAt
  have HI4 := Lib.hid hI4
  have hr60 := allW_len HOK.out
  have hg60 := HOK.out.so.1
  rw [gensL_len] at HI4 ⊢
  clear hI4 ho hb4 HG c0 HI3
  have HROK : Hid (∀ r ∈ allW ls f, r.b.v.length = 8 ∧ beastErr r.b = 0 ∧ liveB ls r.h.1 r.h.2 = true ∧ f r.h.1 = some (r.h.2, r.b)) := fun r hr => allW_ok HOK.out hr
  have HSL : Hid (∀ r ∈ allW ls f, ∃ s : Nat, r.h.1 = (s : Int) ∧ s < ls.length ∧ (gensL ls).getD s 0 = r.h.2) := fun r hr => allW_slot HOK.out hr
  have HGW : Hid (∀ r ∈ allW ls f, getW ls f r.h = (r.b, 0)) := fun r hr => getW_row HOK.out hr
  have HSO : Hid (∀ i j (hi : i < (allW ls f).length) (hj : j < (allW ls f).length), i < j → (allW ls f)[i].h.1 < (allW ls f)[j].h.1) := fun i j hi hj hij => List.pairwise_iff_getElem.1 (all_sorted ls f) i j hi hj hij
  generalize allW ls f = rs at *
  have hri : (rs.length : Int) ≤ 60 := by omega
  have hrcI : (rs.length : Int) ≤ rc := by omega
  have hnq : ∀ x : List Int, x.length = 9 → ∀ W, (binOp .neq 35 (.agg (ints x)) (.agg (ints x))).run Try.prog W = .ok (.bool false) W := fun x hx W => by rw [neq_beast x x hx hx W]; simp
  have HNQ := Lib.hid hnq
  clear hnq
  go_wp2_with fail
  go_loopw [25] (fun i w' => ∃ k : Nat, k ≤ rs.length ∧ i = .int .i64 k ∧ In (fun _ => False) w [IntsA (.slice gA ls.length gc) (gensL ls), RowsA (.slice rA rs.length rc) rs, WorldA p ls f] w') (fun i _ => rs.length - (intOf i).toNat)
  case atStart => exact ⟨0, Nat.zero_le _, rfl, HI4.out⟩
  case round =>
    clear HI4
    obtain ⟨k, hk, rfl, hI⟩ := hrel
    have HI := Lib.hid hI
    clear hI
    by_cases hlt : k < rs.length
    · have hki : (k : Int) < rs.length := by omega
      obtain ⟨A', c', e0, _, _, hrow⟩ := HI.out.swap.rowsAt
      injection e0 with e1 e2 e3
      subst e1; subst e3
      obtain ⟨g, rfl, q1⟩ := hrow k hlt
      rw [List.getD_eq_getElem?_getD, List.getElem?_eq_getElem hlt, Option.getD_some] at q1
      have hrm := List.getElem_mem hlt
      obtain ⟨hr8, hre, hrl, hrf⟩ := HROK.out _ hrm
      obtain ⟨s, hs1, hs2, hs3⟩ := HSL.out _ hrm
      have hgw := HGW.out _ hrm
      rw [rowE_eq hr8] at q1
      have HPR : Hid (∀ j, k = j + 1 → ∃ hj : j < rs.length, rs[j].h.1 < s) := by
        rintro j rfl
        exact ⟨by omega, by have := HSO.out j (j + 1) (by omega) hlt (by omega); omega⟩
      generalize rs[k] = r at *
      obtain ⟨⟨r0, gen⟩, b⟩ := r
      simp only at hs1 hs3 hr8
      subst hs1
      have hb9 : b.list.length = 9 := by simp [Beast.list, hr8]
      have hl11 : (RowM.list ⟨((s : Int), gen), b⟩).length = 11 := by simp [RowM.list, Beast.list, hr8]
      have HOWN := Lib.hid HI.out
      clear hrow e2 hre hrl hrf hrm
      go_upto_region 11 with (fail)
      refine wp_abs (In (fun _ => False) w [Box wr.heap.size 37 (ints (RowM.list ⟨((s : Int), gen), b⟩)), IntsA (.slice gA ls.length gc) (gensL ls), RowsA (.slice (some ⟨g, 0, none⟩) rs.length rc) rs, WorldA p ls f]) (HI.out.struct 37 [0, 0, 0, 0, 0, 0, 0, 0, 0, 0, 0] _ hl11) ?_
      generalize wr.heap.size = rb
      intro w5 hI5
      have q2 : row? w5 rb 0 2 = some (ints [(s : Int), gen]) := by rw [hI5.blk.row_ints 0 2 (by omega)]; rfl
      have HI5 := Lib.hid (hI5.reorder 4 [3, 0, 1, 2] rfl (by simp))
      clear hI5 q1 HI HOWN
      go_wp2_with fail
      refine (get_in HI5.out HOK.out (s : Int) gen).mono ?_
      rintro e w6 ⟨rfl, hI6⟩
      rw [hgw]
      simp only
      have HI6 := Lib.hid hI6
      clear hI6 HI5 q2 hgw
      go_upto_region 12 with (fail)
      refine wp_abs (In (fun _ => False) w [Box w6.heap.size 35 (ints b.list), WorldA p ls f, Box rb 37 (ints (RowM.list ⟨((s : Int), gen), b⟩)), IntsA (.slice gA ls.length gc) (gensL ls), RowsA (.slice (some ⟨g, 0, none⟩) rs.length rc) rs]) (HI6.out.struct 35 [0, 0, 0, 0, 0, 0, 0, 0, 0] _ hb9) ?_
      generalize w6.heap.size = bb
      intro w7 hI7
      have d1 : row? w7 bb 0 9 = some (ints b.list) := hI7.blk.row_all hb9
      have d2 : row? w7 rb 2 9 = some (ints b.list) := by
        rw [hI7.third.blk.row_ints 2 9 (by omega)]
        show some (ints (b.list.take 9)) = _
        rw [List.take_of_length_le (by omega)]
      have d3 : w7.cell? ⟨rb, 0, none⟩ = some (.int .i64 (s : Int)) := hI7.third.blk.cell 0
      have d4 : w7.cell? ⟨rb, 1, none⟩ = some (.int .i64 gen) := hI7.third.blk.cell 1
      obtain ⟨A', c', e0, hgr⟩ := hI7.fourth.intsAt
      rw [gensL_len] at e0 hgr
      injection e0 with e1 e2 e3
      subst e1; subst e3
      obtain ⟨gb, go, rfl, hgl, hkl2, hgc⟩ := hgr.at_ (k := s) hs2
      have hgg : (gensL ls)[s] = gen := by rw [← hs3, List.getD_eq_getElem?_getD, List.getElem?_eq_getElem hkl2]; rfl
      rw [hgg] at hgc
      have hn := HNQ.out b.list hb9
      have hsl : (s : Int) < ls.length := by omega
      obtain ⟨A2, c2, e0, _, _, hrow⟩ := (hI7.nth 4 (by simp)).rowsAt
      injection e0 with e1 e2 e3
      subst e1; subst e3
      have HI7 : Hid (In (fun _ => False) w [IntsA (.slice (some ⟨gb, go, none⟩) ls.length gc) (gensL ls), RowsA (.slice (some ⟨g, 0, none⟩) rs.length rc) rs, WorldA p ls f] w7) := hI7.drop.swap.drop.reorder 3 [1, 2, 0] rfl (by simp)
      clear hI7 HI6 hgr e2
      have hsg : ((s : Int) ≥ (ls.length : Int)) = False := by simp; omega
      rcases k with _ | j
      case' zero =>
        clear HPR hrow
        go_quiet (fail)
      case' succ =>
        obtain ⟨hj, hlt2⟩ := HPR.out j rfl
        obtain ⟨g', e, q⟩ := hrow j hj
        injection e with e
        injection e with e
        subst e
        rw [List.getD_eq_getElem?_getD, List.getElem?_eq_getElem hj, Option.getD_some] at q
        have d5 : w7.cell? ⟨g, j * 11, none⟩ = some (.int .i64 rs[j].h.1) := cell_row0 (n := 11) (by rw [q]; rfl)
        generalize rs[j].h.1 = y at *
        have hjj : IntKind.i64.wrap (((j + 1 : Nat) : Int) - 1) = (j : Int) := by rw [show ((j + 1 : Nat) : Int) - 1 = (j : Int) by omega]; exact IntWalk.i64_in _ (by omega)
        have hjj2 : IntKind.i64.wrap ((j : Int) + 1 - 1) = (j : Int) := by rw [show (j : Int) + 1 - 1 = (j : Int) by omega]; exact IntWalk.i64_in _ (by omega)
        have hjj3 : IntKind.i64.wrap (j : Int) = (j : Int) := IntWalk.i64_in _ (by omega)
        have hjp : decide (((j + 1 : Nat) : Int) > 0) = true := decide_eq_true (by omega)
        have hjr : (j : Int) < rs.length := by omega
        clear HPR hrow q
        go_quiet (fail)
      all_goals
        have HI8 : Hid (In (fun _ => False) w [IntsA (.slice (some ⟨gb, go, none⟩) ls.length gc) (gensL ls), RowsA (.slice (some ⟨g, 0, none⟩) rs.length rc) rs, WorldA p ls f] (w7.drewN nq)) := HI7.out.below ⟨rfl, rfl, rfl, Nat.le_refl _, fun _ _ => rfl⟩
        generalize w7.drewN nq = w8 at *
        clear HI7
        go_wp2_with fail
        go_roundw
        · first
            | exact ⟨j + 1 + 1, by omega, by go_num, HI8.out⟩
            | exact ⟨1, by omega, by go_num, HI8.out⟩
        · simp [intOf]; omega
    · have hkm : k = rs.length := by omega
      subst hkm
      have HB := Lib.hid HI.out.below0
      clear HI
      go_wp2_with fail
      go_ret
      exact ⟨rfl, HB.out⟩

end Go.Proofs.Ytjggdpnamakoeaa
