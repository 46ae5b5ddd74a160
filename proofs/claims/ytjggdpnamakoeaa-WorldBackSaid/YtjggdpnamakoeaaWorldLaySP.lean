/-
  A world whose slots lie at a known place, and the contract of world.lay there (printed by wip/gen_layS.py from my own text WorldLay).
-/
import Derived.Test.YtjggdpnamakoeaaWP36
namespace Go.Proofs.Ytjggdpnamakoeaa
open Go.RowKit

def WorldS (p sp : Nat) (ls : List (Int × Bool)) (f : BF) : Assn where
  at_ w F := ∃ tb pb T, TRep T f ∧ Sep (wParts p sp tb pb ls T) w F
  frame h ho hd := by obtain ⟨tb, pb, T, h1, hs⟩ := h; exact ⟨tb, pb, T, h1, hs.frame ho hd⟩
  cut h hd := by obtain ⟨tb, pb, T, h1, hs⟩ := h; exact ⟨tb, pb, T, h1, hs.cut hd⟩
section
variable {G : Nat → Prop} {w0 w w' : World} {l : List Assn} {p sp tb pb : Nat} {ls : List (Int × Bool)} {f : BF} {T : WT}
theorem In.openWorldS (h : In G w0 (WorldS p sp ls f :: l) w) : ∃ tb pb T, TRep T f ∧ In G w0 (Box p 61 #[.pointer (some ⟨sp, 0, none⟩), .map (some tb), .map (some pb)] :: SlotsA sp ls :: PtrMap tb (T.ks.map fun K => (K, T.pt K)) :: PlaceMap pb T.ps :: (l ++ T.ks.map (tblOf T))) w := by
  obtain ⟨⟨F1, F2, ⟨tb, pb, T, hT, hs⟩, h2, h3, h4⟩, ho⟩ := h
  have h5 : In G w0 (wParts p sp tb pb ls T ++ l) w := ⟨(Sep.join hs h2 h3).cut fun k _ hk => h4 k hk, ho⟩
  exact ⟨tb, pb, T, hT, h5.perm (wParts_perm p sp tb pb ls T l)⟩
theorem In.shutWorldS (hT : TRep T f) (h : In G w0 (Box p 61 #[.pointer (some ⟨sp, 0, none⟩), .map (some tb), .map (some pb)] :: SlotsA sp ls :: PtrMap tb (T.ks.map fun K => (K, T.pt K)) :: PlaceMap pb T.ps :: (l ++ T.ks.map (tblOf T))) w) : In G w0 (WorldS p sp ls f :: l) w := by
  have h := h.perm (wParts_perm p sp tb pb ls T l).symm
  obtain ⟨hs, ho⟩ := h
  obtain ⟨F1, F2, h1, h2, h3, h4⟩ := Sep.part hs
  exact ⟨⟨F1, F2, ⟨tb, pb, T, hT, h1⟩, h2, h3, h4⟩, ho⟩
theorem In.worldOf (h : In G w0 (WorldS p sp ls f :: l) w) : In G w0 (WorldA p ls f :: l) w := by
  obtain ⟨tb, pb, T, hT, hI⟩ := h.openWorldS
  exact In.shutWorld hT hI
theorem In.worldS (h : In G w0 (WorldA p ls f :: l) w) : ∃ sp, In G w0 (WorldS p sp ls f :: l) w := by
  obtain ⟨sp, tb, pb, T, hT, hI⟩ := h.openWorld
  exact ⟨sp, In.shutWorldS hT hI⟩
end
set_option maxHeartbeats 4000000 in
set_option maxRecDepth 100000 in
theorem layS_in {G : Nat → Prop} {w0 w : World} {l : List Assn} {p sp : Nat} {ls : List (Int × Bool)} {f : BF} (h : In G w0 (WorldS p sp ls f :: l) w) (s g : Int) (b : Beast) (hf : f s = none) (hb : beastErr b = 0 ∧ b.v.length = 8 ∧ 0 ≤ s ∧ s < 60) :
    Calls Try.prog 31 #[.pointer (some ⟨p, 0, none⟩), .agg #[.int .i64 s, .int .i64 g], .agg (ints b.list)] w fun e w' => e = .returned (.tuple #[]) ∧ In G w0 (WorldS p sp ls (updB f s (some (g, b))) :: l) w' := by
  obtain ⟨tb, pb, T, hT, hI⟩ := h.openWorldS
  have hk := kK hb.1
  have HT := Lib.hid hT
  have HF := Lib.hid hf
  have HB := Lib.hid hb
  have HI0 := Lib.hid hI
  have HK := Lib.hid hk
  clear h hT hI hf hb hk
  have hbl : b.list.length = 9 := by unfold Beast.list; rw [List.length_cons, HB.out.2.1]
  go_enter Try.func31, Try.ntmps31
  go_upto_region 1 with (fail)
  refine wp_abs (In G w0 (Box (w.heap.size + 1) 35 (ints b.list) :: Box w.heap.size 24 (ints [s, g]) :: Box p 61 #[.pointer (some ⟨sp, 0, none⟩), .map (some tb), .map (some pb)] :: SlotsA sp ls :: PtrMap tb (T.ks.map fun K => (K, T.pt K)) :: PlaceMap pb T.ps :: (l ++ T.ks.map (tblOf T)))) (by
    have := (HI0.out.alloc 24 (ints [s, g])).alloc 35 (ints b.list)
    rw [World.size_alloc] at this
    exact this) ?_
  generalize w.heap.size + 1 = bb
  generalize w.heap.size = hb
  intro w1 hI1
  have c1 : ∀ n : After w1, n.w.cell? ⟨p, 1, none⟩ = some (.map (some tb)) := fun n => (hI1.third.blk.after n.below).cell 1
  have c2 : ∀ n : After w1, n.w.cell? ⟨bb, 0, none⟩ = some (.int .i64 b.k) := fun n => (hI1.blk.after n.below).cell 0
  have hmap := (hI1.nth 4 (by simp)).mapAt
  have hlook : ∀ n : After w1, (Instr.lookup 58 (.map (some tb)) (.int .i64 b.k) true).run Try.prog n.w = .ok (if b.k ∈ T.ks then .tuple #[.pointer (some ⟨T.pt b.k, 0, none⟩), .bool true] else .tuple #[.pointer none, .bool false]) n.w := fun n => by
    rw [(hmap.after n.below).look keyI Try.underlying58 (zero_tbl n.w) (x := b.k) (wf_small (by have := HK.out; omega)) true, pt_get]
    by_cases e : b.k ∈ T.ks
    · rw [if_pos e, if_pos e]; rfl
    · rw [if_neg e, if_neg e]; rfl
  have HI1 := Lib.hid hI1
  clear hI1 HI0 hmap
  by_cases hK : b.k ∈ T.ks
  · rw [if_pos hK] at hlook
    have HKS := Lib.hid hK
    clear hK
    refine wp_region_after (by kernel_rfl) (by kernel_rfl) ?_
    repeat (go_big_quiet_step (fail))
    refine wpQuiet_nil ?_
    rintro _ ⟨n, rfl⟩
    have hI2 := HI1.out.below n.below
    generalize n.w = w2 at *
    have k1 : row? w2 bb 0 9 = some (ints b.list) := hI2.blk.row_all hbl
    have k2 : row? w2 hb 0 2 = some (ints [s, g]) := hI2.swap.blk.row_all rfl
    have HI2 := Lib.hid hI2
    clear hI2 c1 c2 hlook HI1
    have hI3 : In G w0 (Tbl (T.pt b.k) b.k (T.rw b.k) :: (Box bb 35 (ints b.list) :: Box hb 24 (ints [s, g]) :: Box p 61 #[.pointer (some ⟨sp, 0, none⟩), .map (some tb), .map (some pb)] :: SlotsA sp ls :: PtrMap tb (T.ks.map fun K => (K, T.pt K)) :: PlaceMap pb T.ps :: l ++ (T.ks.erase b.k).map (tblOf T))) w2 :=
      In.pickT (X := Box bb 35 (ints b.list) :: Box hb 24 (ints [s, g]) :: Box p 61 #[.pointer (some ⟨sp, 0, none⟩), .map (some tb), .map (some pb)] :: SlotsA sp ls :: PtrMap tb (T.ks.map fun K => (K, T.pt K)) :: PlaceMap pb T.ps :: l) HI2.out HKS.out
    have HAD : Hid (addR b.k (T.rw b.k) ⟨(s, g), b⟩ = (T.rw b.k ++ [⟨(s, g), b⟩], (((T.rw b.k).length : Nat) : Int), 0)) := by
      unfold Hid addR
      rw [if_neg (by simpa using HB.out.1), if_neg (by simp)]
    have hl60 := HT.out.rows_len HKS.out
    have HADD := Lib.hid (tadd_in hI3 s g b HB.out.2.1 (by omega))
    rw [HAD.out] at HADD
    clear hI3
    go_wp2_with fail
    refine HADD.out.mono ?_
    rintro e w3 ⟨rfl, hI4⟩
    have hI4 : In G w0 (Box bb 35 (ints b.list) :: Box hb 24 (ints [s, g]) :: Box p 61 #[.pointer (some ⟨sp, 0, none⟩), .map (some tb), .map (some pb)] :: SlotsA sp ls :: PtrMap tb (T.ks.map fun K => (K, T.pt K)) :: PlaceMap pb T.ps :: (l ++ T.ks.map (tblOf ⟨T.ks, T.pt, updR T.rw b.k (T.rw b.k ++ [⟨(s, g), b⟩]), mput T.ps s (b.k, ((T.rw b.k).length : Int))⟩))) w3 :=
      In.backT (X := Box bb 35 (ints b.list) :: Box hb 24 (ints [s, g]) :: Box p 61 #[.pointer (some ⟨sp, 0, none⟩), .map (some tb), .map (some pb)] :: SlotsA sp ls :: PtrMap tb (T.ks.map fun K => (K, T.pt K)) :: PlaceMap pb T.ps :: l) HT.out.nd HKS.out hI4
    have HREP := Lib.hid (HT.out.lay_old (g := g) HF.out HB.out HKS.out)
    have q1 : w3.cell? ⟨p, 2, none⟩ = some (.map (some pb)) := hI4.third.blk.cell 2
    have q2 : w3.cell? ⟨hb, 0, none⟩ = some (.int .i64 s) := hI4.swap.blk.cell 0
    have q3 : w3.cell? ⟨bb, 0, none⟩ = some (.int .i64 b.k) := hI4.blk.cell 0
    have HI4 := Lib.hid hI4
    clear hI4 HI2 HADD HAD k1 k2
    go_upto_region 6 with (fail)
    go_still_tail 10, (by kernel_rfl)
    change wpList _ _ _ _ _ w3.drew
    have HI5 := Lib.hid HI4.out.drew
    clear HI4 q1 q2 q3
    generalize w3.drew = w4 at *
    have HP := Lib.hid (HI5.out.nth 5 (by simp)).mapAt
    go_wp2_with (at_mapUpdate; go_loud (refine wpList_store keyI rfl _ _ _ 59 73 rfl Try.underlying59 pb _ rfl HP.out s rfl (wf_small (by have := HB.out.2.2; omega)) (b.k, ((T.rw b.k).length : Int)) rfl ?_))
    intro w5 h1 h2 h3
    have hI6 : In G w0 (PlaceMap pb (mput T.ps s (b.k, ((T.rw b.k).length : Int))) :: Box bb 35 (ints b.list) :: Box hb 24 (ints [s, g]) :: Box p 61 #[.pointer (some ⟨sp, 0, none⟩), .map (some tb), .map (some pb)] :: SlotsA sp ls :: PtrMap tb (T.ks.map fun K => (K, T.pt K)) :: (l ++ T.ks.map (tblOf ⟨T.ks, T.pt, updR T.rw b.k (T.rw b.k ++ [⟨(s, g), b⟩]), mput T.ps s (b.k, ((T.rw b.k).length : Int))⟩))) w5 := In.mapped (HI5.out.nth 5 (by simp)) h1 h2
    clear h1 h2 h3
    have HI6 := Lib.hid hI6.swap.drop.swap.drop.to4
    clear hI6 HP HI5
    go_wp2_with fail
    go_end0
    exact ⟨rfl, In.shutWorldS HREP.out HI6.out⟩
  · rw [if_neg hK] at hlook
    have HKS := Lib.hid hK
    clear hK
    refine wp_region_after (by kernel_rfl) (by kernel_rfl) ?_
    repeat (go_big_quiet_step (fail))
    refine wpQuiet_nil ?_
    rintro _ ⟨n, rfl⟩
    have hI2 := HI1.out.below n.below
    generalize n.w = w2 at *
    have k1 : w2.cell? ⟨bb, 0, none⟩ = some (.int .i64 b.k) := hI2.blk.cell 0
    have HI2 := Lib.hid hI2
    clear hI2 c1 c2 hlook HI1
    go_wp2_with fail
    refine (tnew_in b.k HK.out HI2.out).mono ?_
    rintro e w3 ⟨q, rfl, hI3⟩
    have q1 : w3.cell? ⟨p, 1, none⟩ = some (.map (some tb)) := hI3.fourth.blk.cell 1
    have q2 : w3.cell? ⟨bb, 0, none⟩ = some (.int .i64 b.k) := hI3.swap.blk.cell 0
    have HI3 := Lib.hid hI3
    clear hI3 HI2 k1
    go_upto_region 4 with (fail)
    go_still_tail 7, (by kernel_rfl)
    change wpList _ _ _ _ _ w3.drew
    have HI4 := Lib.hid HI3.out.drew
    clear HI3 q1 q2
    generalize w3.drew = w4 at *
    have HP := Lib.hid (HI4.out.nth 5 (by simp)).mapAt
    go_wp2_with (at_mapUpdate; go_loud (refine wpList_store keyI rfl _ _ _ 58 74 rfl Try.underlying58 tb _ rfl HP.out b.k rfl (wf_small (by have := HK.out; omega)) q rfl ?_))
    intro w5 h1 h2 h3
    have hI5 : In G w0 (PtrMap tb (mput (T.ks.map fun K => (K, T.pt K)) b.k q) :: Tbl q b.k [] :: Box bb 35 (ints b.list) :: Box hb 24 (ints [s, g]) :: Box p 61 #[.pointer (some ⟨sp, 0, none⟩), .map (some tb), .map (some pb)] :: SlotsA sp ls :: PlaceMap pb T.ps :: (l ++ T.ks.map (tblOf T))) w5 := In.mapped (HI4.out.nth 5 (by simp)) h1 h2
    rw [pt_put T b.k q HKS.out] at hI5
    have k1 : row? w5 bb 0 9 = some (ints b.list) := hI5.third.blk.row_all hbl
    have k2 : row? w5 hb 0 2 = some (ints [s, g]) := hI5.fourth.blk.row_all rfl
    have HI5 := Lib.hid hI5.swap
    clear hI5 h1 h2 h3 HP HI4
    have HAD : Hid (addR b.k [] ⟨(s, g), b⟩ = ([⟨(s, g), b⟩], 0, 0)) := by
      unfold Hid addR
      rw [if_neg (by simpa using HB.out.1), if_neg (by simp)]; rfl
    have HADD := Lib.hid (tadd_in HI5.out s g b HB.out.2.1 (by simp))
    rw [HAD.out] at HADD
    go_wp2_with fail
    refine HADD.out.mono ?_
    rintro e w6 ⟨rfl, hI6⟩
    have hI7 : In G w0 (PtrMap tb ((T.ks ++ [b.k]).map fun k => (k, updR T.pt b.k q k)) :: Box bb 35 (ints b.list) :: Box hb 24 (ints [s, g]) :: Box p 61 #[.pointer (some ⟨sp, 0, none⟩), .map (some tb), .map (some pb)] :: SlotsA sp ls :: PlaceMap pb T.ps :: (l ++ (T.ks ++ [b.k]).map (tblOf ⟨T.ks ++ [b.k], updR T.pt b.k q, updR T.rw b.k [⟨(s, g), b⟩], mput T.ps s (b.k, 0)⟩))) w6 :=
      In.newT (X := PtrMap tb ((T.ks ++ [b.k]).map fun k => (k, updR T.pt b.k q k)) :: Box bb 35 (ints b.list) :: Box hb 24 (ints [s, g]) :: Box p 61 #[.pointer (some ⟨sp, 0, none⟩), .map (some tb), .map (some pb)] :: SlotsA sp ls :: PlaceMap pb T.ps :: l) HKS.out hI6
    have HREP := Lib.hid (HT.out.lay_new (g := g) HF.out HB.out HKS.out q)
    have q1 : w6.cell? ⟨p, 2, none⟩ = some (.map (some pb)) := hI7.fourth.blk.cell 2
    have q2 : w6.cell? ⟨hb, 0, none⟩ = some (.int .i64 s) := hI7.third.blk.cell 0
    have q3 : w6.cell? ⟨bb, 0, none⟩ = some (.int .i64 b.k) := hI7.swap.blk.cell 0
    have HI7 := Lib.hid hI7
    clear hI7 hI6 HI5 HADD HAD k1 k2
    go_upto_region 6 with (fail)
    go_still_tail 10, (by kernel_rfl)
    change wpList _ _ _ _ _ w6.drew
    have HI8 := Lib.hid HI7.out.drew
    clear HI7 q1 q2 q3
    generalize w6.drew = w7 at *
    have HP := Lib.hid (HI8.out.nth 5 (by simp)).mapAt
    go_wp2_with (at_mapUpdate; go_loud (refine wpList_store keyI rfl _ _ _ 59 73 rfl Try.underlying59 pb _ rfl HP.out s rfl (wf_small (by have := HB.out.2.2; omega)) (b.k, 0) rfl ?_))
    intro w8 h1 h2 h3
    have hI9 : In G w0 (PlaceMap pb (mput T.ps s (b.k, 0)) :: PtrMap tb ((T.ks ++ [b.k]).map fun k => (k, updR T.pt b.k q k)) :: Box bb 35 (ints b.list) :: Box hb 24 (ints [s, g]) :: Box p 61 #[.pointer (some ⟨sp, 0, none⟩), .map (some tb), .map (some pb)] :: SlotsA sp ls :: (l ++ (T.ks ++ [b.k]).map (tblOf ⟨T.ks ++ [b.k], updR T.pt b.k q, updR T.rw b.k [⟨(s, g), b⟩], mput T.ps s (b.k, 0)⟩))) w8 := In.mapped (HI8.out.nth 5 (by simp)) h1 h2
    clear h1 h2 h3
    have HI9 : Hid (In G w0 (Box p 61 #[.pointer (some ⟨sp, 0, none⟩), .map (some tb), .map (some pb)] :: SlotsA sp ls :: PtrMap tb ((T.ks ++ [b.k]).map fun k => (k, updR T.pt b.k q k)) :: PlaceMap pb (mput T.ps s (b.k, 0)) :: (l ++ (T.ks ++ [b.k]).map (tblOf ⟨T.ks ++ [b.k], updR T.pt b.k q, updR T.rw b.k [⟨(s, g), b⟩], mput T.ps s (b.k, 0)⟩))) w8) :=
      hI9.swap.third.drop.third.drop.swap.to4.to3
    clear hI9 HP HI8
    go_wp2_with fail
    go_end0
    exact ⟨rfl, In.shutWorldS HREP.out HI9.out⟩

end Go.Proofs.Ytjggdpnamakoeaa
