/-
  Rows and all at a world whose slots lie at a known place (printed by wip/gen_rowsS.py from my own texts); the generations there.
-/
import Derived.Test.YtjggdpnamakoeaaWorldLaySP
import Derived.Test.YtjggdpnamakoeaaWP36
namespace Go.Proofs.Ytjggdpnamakoeaa
open Go.RowKit Go.Sort

section
variable {G : Nat → Prop} {w0 w : World} {l : List Assn} {p sp : Nat} {ls : List (Int × Bool)} {f : BF}
set_option maxHeartbeats 8000000 in
set_option maxRecDepth 100000 in
theorem rowsS_in (h : In G w0 (WorldS p sp ls f :: l) w) (hk : WOk ls f) (q : Query) :
    Calls Try.prog 18 #[.pointer (some ⟨p, 0, none⟩), .agg (ints q.list)] w fun e w' => ∃ v, e = .returned (.tuple #[v, .int .i64 (queryErr q)]) ∧ In G w0 (RowsA v (if queryErr q = 0 then rowsW ls f q else []) :: WorldS p sp ls f :: l) w' := by
  have HI0 := Lib.hid h
  have HK := Lib.hid hk
  clear h hk
  obtain ⟨qe, hqe⟩ : ∃ x, queryErr q = x := ⟨_, rfl⟩
  rw [hqe]
  have HQE := Lib.hid hqe
  clear hqe
  go_enter Try.func18, Try.ntmps18
  go_upto_region 1 with (fail)
  refine wp_abs (In G w0 (WorldS p sp ls f :: Box w.heap.size 45 (ints q.list) :: l)) ((HI0.out.alloc 45 (ints q.list)).swap) ?_
  generalize w.heap.size = qb
  intro w1 hI1
  have q1 : row? w1 qb 0 3 = some (ints q.list) := hI1.swap.blk.row_all rfl
  have HI1 := Lib.hid hI1
  clear hI1 HI0
  go_wp2_with fail
  refine (checkQuery_any q w1).mono ?_
  rintro e w2 ⟨rfl, hb2⟩
  rw [HQE.out]
  have HI2 := Lib.hid (HI1.out.below hb2)
  clear hb2 HI1 q1
  by_cases hq : qe = 0
  case neg =>
    have HQ := Lib.hid hq
    go_wp2_with fail
    go_ret2
    refine ⟨.slice none 0 0, rfl, ?_⟩
    exact HI2.out.swap.drop.nilRow _ _
  case pos =>
    subst hq
    clear HQE
    obtain ⟨tb, pb, T, hT, hI⟩ := HI2.out.openWorldS
    have hI3 : In G w0 (Box p 61 #[.pointer (some ⟨sp, 0, none⟩), .map (some tb), .map (some pb)] :: SlotsA sp ls :: PtrMap tb (T.ks.map fun K => (K, T.pt K)) :: PlaceMap pb T.ps :: Box qb 45 (ints q.list) :: (l ++ T.ks.map (tblOf T))) w2 := hI
    have hkd : ∀ K ∈ T.ks, (0 ≤ K ∧ K ≤ 255) ∧ ∀ r ∈ T.rw K, r.b.k = K := fun K hK => tbl_kind (In.pickT (X := Box p 61 #[.pointer (some ⟨sp, 0, none⟩), .map (some tb), .map (some pb)] :: SlotsA sp ls :: PtrMap tb (T.ks.map fun K => (K, T.pt K)) :: PlaceMap pb T.ps :: Box qb 45 (ints q.list) :: l) hI3 hK)
    have HKD := Lib.hid hkd
    have HT := Lib.hid hT
    have HKL := Lib.hid (ks_len hT.nd fun K hK => (hkd K hK).1)
    have HI3 := Lib.hid hI3
    have k0 : w2.cell? ⟨p, 1, none⟩ = some (.map (some tb)) := hI3.blk.cell 1
    clear hT hI hI3 hkd HI2
    go_wp2_with fail
    refine (tkeys_any tb w2).mono ?_
    rintro e w3 ⟨rfl, rfl⟩
    have hI4 := (HI3.out.alloc 58 #[.map (some tb)])
    have hcol := tkeysCollect_any (m := T.ks.map fun K => (K, T.pt K)) hI4.blk (hI4.fourth.mapAt) (by rw [List.length_map]; have := HKL.out; omega)
    have HCOL := Lib.hid hcol
    have HI4 := Lib.hid hI4.drop
    clear hI4 hcol HI3 k0
    generalize w2.alloc (.cells #[.map (some tb)] 58) = w3 at *
    go_wp2_with fail
    refine HCOL.out.mono ?_
    rintro e w4 ⟨v4, ys, rfl, hp, ho, hb⟩
    rw [mkeys_pt] at hp
    have HP := Lib.hid hp
    have hyl : ys.length ≤ 256 := by rw [hp.length_eq]; exact HKL.out
    have HI5 : Hid (In G w0 (RowsA (.slice none 0 0) [] :: IntsA v4 ys :: Box p 61 #[.pointer (some ⟨sp, 0, none⟩), .map (some tb), .map (some pb)] :: SlotsA sp ls :: PtrMap tb (T.ks.map fun K => (K, T.pt K)) :: PlaceMap pb T.ps :: Box qb 45 (ints q.list) :: (l ++ T.ks.map (tblOf T))) w4) := (HI4.out.newInts ho hb).nilRow _ _
    obtain ⟨A4, c4, rfl, _⟩ := HI5.out.swap.intsAt
    clear ho hb HCOL HI4 hp
    obtain ⟨i0, hi0, hz0, hz1, hz2⟩ := info_parts row_parts
    have hyi : (ys.length : Int) ≤ 256 := by omega
    go_wp2_with fail
    go_loopw [26, 7] (fun i v w' => ∃ j : Nat, j ≤ ys.length ∧ i = .int .i64 j ∧ In G w0 (RowsA v (matchK q ys T.rw j) :: IntsA (.slice A4 ys.length c4) ys :: Box p 61 #[.pointer (some ⟨sp, 0, none⟩), .map (some tb), .map (some pb)] :: SlotsA sp ls :: PtrMap tb (T.ks.map fun K => (K, T.pt K)) :: PlaceMap pb T.ps :: Box qb 45 (ints q.list) :: (l ++ T.ks.map (tblOf T))) w') (fun i _ _ => ys.length - (intOf i).toNat)
    case atStart => exact ⟨0, by omega, rfl, HI5.out⟩
    case round =>
      clear HI5
      obtain ⟨j, hj, rfl, hI⟩ := hrel
      have HI := Lib.hid hI
      obtain ⟨A5, c5, hA5, hr5⟩ := hI.swap.intsAt
      injection hA5 with e1 e2 e3
      subst e1; subst e3
      have HR5 := Lib.hid hr5
      clear hI hr5 e2
      by_cases hlt : j < ys.length
      · have hji : (j : Int) < ys.length := by omega
        obtain ⟨g, o2, rfl, hgl, hkl2, hc2⟩ := HR5.out.at_ (k := j) hlt
        have HMS := Lib.hid (matchK_succ q ys T.rw j hlt)
        have hKm : ys[j] ∈ T.ks := HP.out.mem_iff.1 (List.getElem_mem hlt)
        generalize ys[j] = K at *
        have HKM := Lib.hid hKm
        have q1 : row? wr qb 0 3 = some (ints q.list) := (HI.out.nth 6 (by simp)).blk.row_all rfl
        clear HR5 hKm
        go_wp2_with fail
        refine (matchQ_any K q wr).mono ?_
        rintro e w5 ⟨rfl, hb5⟩
        have HI5 := Lib.hid (HI.out.below hb5)
        clear hb5 q1 hc2 HI
        cases hm : matchQ K q with
        | false =>
          rw [if_neg (by rw [hm]; simp)] at HMS
          clear hm
          go_wp2_with fail
          go_roundw
          case rel => exact ⟨j + 1, by omega, by go_num, by rw [HMS.out]; exact HI5.out⟩
          case measure => simp [intOf]; omega
        | true =>
          rw [if_pos hm] at HMS
          clear hm
          have k1 : w5.cell? ⟨p, 1, none⟩ = some (.map (some tb)) := (HI5.out.third).blk.cell 1
          have hmap := (HI5.out.nth 4 (by simp)).mapAt
          have hl1 := look_tbl hmap HKM.out (HKD.out K HKM.out).1 (Below.refl _ _)
          clear hmap
          have hl60 := HT.out.rows_len HKM.out
          have HI6 : Hid (In G w0 (Tbl (T.pt K) K (T.rw K) :: RowsA u7 (matchK q ys T.rw j) :: IntsA (.slice (some ⟨g, o2, none⟩) ys.length c4) ys :: Box p 61 #[.pointer (some ⟨sp, 0, none⟩), .map (some tb), .map (some pb)] :: SlotsA sp ls :: PtrMap tb (T.ks.map fun K => (K, T.pt K)) :: PlaceMap pb T.ps :: Box qb 45 (ints q.list) :: l ++ (T.ks.erase K).map (tblOf T)) w5) := In.pickT (X := RowsA u7 (matchK q ys T.rw j) :: IntsA (.slice (some ⟨g, o2, none⟩) ys.length c4) ys :: Box p 61 #[.pointer (some ⟨sp, 0, none⟩), .map (some tb), .map (some pb)] :: SlotsA sp ls :: PtrMap tb (T.ks.map fun K => (K, T.pt K)) :: PlaceMap pb T.ps :: Box qb 45 (ints q.list) :: l) HI5.out HKM.out
          have HH := Lib.hid (thandles_in HI6.out (by omega))
          go_wp2_with fail
          refine HH.out.mono ?_
          rintro e w6 ⟨hv, rfl, ho, hb6, hI7⟩
          obtain ⟨A6, c6, rfl, _, _, _⟩ := own_form ho
          have HI7 : Hid (In G w0 (RowsA u7 (matchK q ys T.rw j ++ (T.rw K).take 0) :: Tbl (T.pt K) K (T.rw K) :: IntsA (.slice (some ⟨g, o2, none⟩) ys.length c4) ys :: Box p 61 #[.pointer (some ⟨sp, 0, none⟩), .map (some tb), .map (some pb)] :: SlotsA sp ls :: PtrMap tb (T.ks.map fun K => (K, T.pt K)) :: PlaceMap pb T.ps :: Box qb 45 (ints q.list) :: l ++ (T.ks.erase K).map (tblOf T)) w6) := by
            rw [List.take_zero, List.append_nil]
            exact hI7.swap
          clear ho hb6 hI7 HI6 HI5 HH k1 hl1
          have hvl : ∀ r ∈ T.rw K, r.b.v.length = 8 := fun r hr => by
            obtain ⟨i, hi, hir⟩ := List.mem_iff_getElem.1 hr
            obtain ⟨h1, _⟩ := HT.out.at_ K HKM.out i r (by rw [List.getElem?_eq_getElem hi, hir])
            exact (HT.out.ok _ _ _ h1).2.1
          have HVL := Lib.hid hvl
          have hml : (matchK q ys T.rw j).length ≤ 60 * ((ys.take j).filter fun K => matchQ K q).length := flat_le T.rw _ fun K' hK' => HT.out.rows_len (HP.out.mem_iff.1 (List.mem_of_mem_take (List.mem_filter.1 hK').1))
          have hml2 : ((ys.take j).filter fun K => matchQ K q).length ≤ 256 := Nat.le_trans (List.length_filter_le _ _) (by rw [List.length_take]; omega)
          have HML : Hid ((matchK q ys T.rw j).length ≤ 15360) := by unfold Hid; omega
          clear hvl hml hml2
          generalize matchK q ys T.rw j = done at *
          have hri : ((T.rw K).length : Int) ≤ 60 := by omega
          go_wp2_with fail
          go_loopw [43, 7] (fun i v w' => ∃ k : Nat, k ≤ (T.rw K).length ∧ i = .int .i64 k ∧ In G w0 (RowsA v (done ++ (T.rw K).take k) :: Tbl (T.pt K) K (T.rw K) :: IntsA (.slice (some ⟨g, o2, none⟩) ys.length c4) ys :: Box p 61 #[.pointer (some ⟨sp, 0, none⟩), .map (some tb), .map (some pb)] :: SlotsA sp ls :: PtrMap tb (T.ks.map fun K => (K, T.pt K)) :: PlaceMap pb T.ps :: Box qb 45 (ints q.list) :: l ++ (T.ks.erase K).map (tblOf T)) w') (fun i _ _ => (T.rw K).length - (intOf i).toNat)
          case atStart => exact ⟨0, by omega, rfl, HI7.out⟩
          case round =>
            clear HI7
            obtain ⟨k, hk, rfl, hI⟩ := hrel
            have HI := Lib.hid hI
            clear hI
            by_cases hkl : k < (T.rw K).length
            · have hki : (k : Int) < (T.rw K).length := by omega
              have HRR : Hid (rowR (T.rw K) (k : Int) = ((T.rw K)[k], 0)) := by
                unfold Hid rowR isRowB
                have h1 : decide (0 ≤ (k : Int)) = true := decide_eq_true (by omega)
                have h2 : decide ((k : Int) < ((T.rw K).length : Nat)) = true := decide_eq_true (by omega)
                rw [h1, h2, Int.toNat_natCast, List.getD_eq_getElem?_getD, List.getElem?_eq_getElem hkl]; rfl
              have HR := Lib.hid (trow_in HI.out.swap (k : Int) (by omega))
              rw [HRR.out] at HR
              have HTK : Hid (done ++ (T.rw K).take (k + 1) = (done ++ (T.rw K).take k) ++ [(T.rw K)[k]]) := by unfold Hid; rw [List.take_succ_eq_append_getElem hkl, List.append_assoc]
              have hx11 : ((T.rw K)[k]).list.length = 11 := by
                have h8 := HVL.out _ (List.getElem_mem hkl)
                simp [RowM.list, Beast.list, h8]
              have HRC : Hid (rowC (T.rw K)[k] = ((T.rw K)[k]).list.map (Value.int .i64)) := by unfold Hid rowC rowE; rw [fixL_eq hx11]
              have hcl : (done ++ (T.rw K).take k).length ≤ 20000 := by rw [List.length_append, List.length_take]; have := HML.out; omega
              generalize (T.rw K)[k] = r at *
              have HX11 := Lib.hid hx11
              generalize hxs : r.list = xs at *
              generalize done ++ (T.rw K).take k = cur at *
              clear hx11 hxs
              have hxl : xs.length = 11 := HX11.out
              go_wp2_with fail
              refine HR.out.mono ?_
              rintro e w8 ⟨rfl, _, hI8⟩
              have HI8 := Lib.hid hI8.swap
              clear hI8 HR HI HRR
              go_upto_region 14 with (fail)
              refine wp_abs (In G w0 (Box w8.heap.size 37 (ints xs) :: RowsA u7 cur :: Tbl (T.pt K) K (T.rw K) :: IntsA (.slice (some ⟨g, o2, none⟩) ys.length c4) ys :: Box p 61 #[.pointer (some ⟨sp, 0, none⟩), .map (some tb), .map (some pb)] :: SlotsA sp ls :: PtrMap tb (T.ks.map fun K => (K, T.pt K)) :: PlaceMap pb T.ps :: Box qb 45 (ints q.list) :: l ++ (T.ks.erase K).map (tblOf T))) (HI8.out.struct 37 [0, 0, 0, 0, 0, 0, 0, 0, 0, 0, 0] xs hxl) ?_
              generalize w8.heap.size = rb
              intro w9 hI9
              have d3 : row? w9 rb 0 11 = some (ints xs) := hI9.blk.row_all hxl
              have HI9 := Lib.hid hI9.drop
              have HOW := Lib.hid hI9.drop.rowAt
              have hone : ∀ u ∈ xs.map (Value.int .i64), u.oneCell' = true := by
                intro u hu; obtain ⟨y, _, rfl⟩ := List.mem_map.1 hu; rfl
              have HONE := Lib.hid hone
              clear hI9 hone HI8
              go_wp2_with (at_builtin; go_loud (refine wpList_append1_at rfl _ _ _ rfl 0 37 i0 _ 11 88 Try.underlying28 hi0 hz0 hz1 hz2 rfl (by decide) _ cur.length _ rfl HOW.out (xs.map (Value.int .i64)) rfl (by rw [List.length_map]; exact HX11.out) HONE.out (by unfold maxLen; omega) (by omega) (Nat.zero_le _) ?_))
              intro v' w10 hown7 hg7 hat7
              have hI10 := In.append1 HI9.out hown7 hg7 hat7
              have hI11 : In G w0 (RowsA v' (cur ++ [r]) :: Tbl (T.pt K) K (T.rw K) :: IntsA (.slice (some ⟨g, o2, none⟩) ys.length c4) ys :: Box p 61 #[.pointer (some ⟨sp, 0, none⟩), .map (some tb), .map (some pb)] :: SlotsA sp ls :: PtrMap tb (T.ks.map fun K => (K, T.pt K)) :: PlaceMap pb T.ps :: Box qb 45 (ints q.list) :: l ++ (T.ks.erase K).map (tblOf T)) w10 := by
                unfold RowsA
                rw [List.length_append, List.flatMap_append, List.flatMap_cons, List.flatMap_nil, List.append_nil, HRC.out]
                exact hI10
              have HI11 := Lib.hid hI11
              clear hown7 hg7 hat7 hI10 hI11 d3 HI9 HOW
              go_wp2_with fail
              go_roundw
              case rel => exact ⟨k + 1, by omega, by go_num, by rw [HTK.out]; exact HI11.out⟩
              case measure => simp [intOf]; omega
            · have hkm : k = (T.rw K).length := by omega
              subst hkm
              rw [List.take_length, ← HMS.out] at HI
              have hI12 : In G w0 (Tbl (T.pt K) K (T.rw K) :: (RowsA u7 (matchK q ys T.rw (j + 1)) :: IntsA (.slice (some ⟨g, o2, none⟩) ys.length c4) ys :: Box p 61 #[.pointer (some ⟨sp, 0, none⟩), .map (some tb), .map (some pb)] :: SlotsA sp ls :: PtrMap tb (T.ks.map fun K => (K, T.pt K)) :: PlaceMap pb T.ps :: Box qb 45 (ints q.list) :: l ++ (T.ks.erase K).map (tblOf T))) wr := HI.out.swap
              go_wp2_with fail
              go_roundw
              case rel => exact ⟨j + 1, by omega, by go_num, In.unpickT (X := RowsA u7 (matchK q ys T.rw (j + 1)) :: IntsA (.slice (some ⟨g, o2, none⟩) ys.length c4) ys :: Box p 61 #[.pointer (some ⟨sp, 0, none⟩), .map (some tb), .map (some pb)] :: SlotsA sp ls :: PtrMap tb (T.ks.map fun K => (K, T.pt K)) :: PlaceMap pb T.ps :: Box qb 45 (ints q.list) :: l) HKM.out hI12⟩
              case measure => simp [intOf]; omega
      · have hjm : j = ys.length := by omega
        subst hjm
        have HMA : Hid (matchK q ys T.rw ys.length = (ys.filter fun K => matchQ K q).flatMap T.rw) := by unfold Hid matchK; rw [List.take_length]
        have hml : ((ys.filter fun K => matchQ K q).flatMap T.rw).length ≤ 60 * (ys.filter fun K => matchQ K q).length := flat_le T.rw _ fun K' hK' => HT.out.rows_len (HP.out.mem_iff.1 (List.mem_filter.1 hK').1)
        have hml2 : (ys.filter fun K => matchQ K q).length ≤ 256 := Nat.le_trans (List.length_filter_le _ _) (by omega)
        rw [HMA.out] at HI
        have hso := sortR_in HI.out (by omega)
        have HSO := Lib.hid hso
        clear hso hml hml2
        go_wp2_with fail
        refine HSO.out.mono ?_
        rintro e w8 ⟨rfl, zs, hzp, hzs, hI9⟩
        have hfin : zs = rowsW ls f q := tables_sort HT.out HK.out (fun K hK => (HKD.out K hK).2) q HP.out hzp (hzs.imp fun {a b} h => by omega)
        rw [hfin] at hI9
        have HI9 := Lib.hid hI9
        clear hI9 hfin hzp hzs HSO HI HMA
        go_wp2_with fail
        go_ret2
        refine ⟨_, rfl, ?_⟩
        have hI10 := HI9.out.swap.drop
        exact (In.shutWorldS (l := Box qb 45 (ints q.list) :: RowsA u7 (rowsW ls f q) :: l) HT.out (hI10.reorder 6 [1, 2, 3, 4, 5, 0] rfl (by simp))).swap.drop.swap
theorem allS_in (h : In G w0 (WorldS p sp ls f :: l) w) (hk : WOk ls f) :
    Calls Try.prog 11 #[.pointer (some ⟨p, 0, none⟩)] w fun e w' => ∃ v, e = .returned v ∧ In G w0 (RowsA v (allW ls f) :: WorldS p sp ls f :: l) w' := by
  have HR := Lib.hid (rowsS_in h hk zeroQ)
  rw [zeroQ_err, if_pos rfl, rows_all matchZero, zeroQ_list] at HR
  clear h hk
  go_enter Try.func11, Try.ntmps11
  go_wp2_with fail
  refine HR.out.mono ?_
  rintro e w1 ⟨v, rfl, hI⟩
  have HI := Lib.hid hI
  clear hI HR
  go_wp2_with fail
  go_ret
  exact ⟨v, rfl, HI.out⟩
theorem gensS_in (h : In G w0 (WorldS p sp ls f :: l) w) (hl : ls.length ≤ 60) : Calls Try.prog 23 #[.pointer (some ⟨sp, 0, none⟩)] w fun e w' => ∃ A c, e = .returned (.slice A ls.length c) ∧ In G w0 (IntsA (.slice A ls.length c) (gensL ls) :: WorldS p sp ls f :: l) w' := by
  obtain ⟨tb, pb, T, hT, hI⟩ := h.openWorldS
  obtain ⟨F1, hS⟩ := hI.swap.head
  refine (gens_any sp ls F1 w hS hl).mono ?_
  rintro e w' ⟨v, rfl, ho, hb⟩
  have hI2 := h.newInts ho hb
  obtain ⟨A, c, rfl, _⟩ := hI2.intsAt
  rw [gensL_len] at hI2 ⊢
  exact ⟨A, c, rfl, hI2⟩
theorem eqG_in {A A' : Option Addr} {n c c' : Nat} {xs : List Int} (hn : n ≤ maxLen) (h : In G w0 (IntsA (.slice A n c) xs :: l) w) {l' : List Assn} {G' : Nat → Prop} {w0' : World} (h' : In G' w0' (IntsA (.slice A' n c') xs :: l') w) :
    Calls Try.prog 25 #[.slice A n c, .slice A' n c'] w fun e w' => e = .returned (.bool true) ∧ w = w' := by
  obtain ⟨B, d, e, hr⟩ := h.intsAt
  obtain ⟨B', d', e', hr'⟩ := h'.intsAt
  injection e with e1 e2 e3
  injection e' with e4 e5 e6
  subst e1; subst e4
  rw [← e2] at hr
  rw [← e2] at hr'
  have := eqI_any A A' n n c c' xs xs w w.heap.size w.heap.size hr hr' hn hn
  rw [decide_eq_true rfl] at this
  exact this
theorem In.slotPtr (h : In G w0 (WorldS p sp ls f :: l) w) : w.cell? ⟨p, 0, none⟩ = some (.pointer (some ⟨sp, 0, none⟩)) := by
  obtain ⟨tb, pb, T, hT, hI⟩ := h.openWorldS
  exact hI.blk.cell 0
end

end Go.Proofs.Ytjggdpnamakoeaa
