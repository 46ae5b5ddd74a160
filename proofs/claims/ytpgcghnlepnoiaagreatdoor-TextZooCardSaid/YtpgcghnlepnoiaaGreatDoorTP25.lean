/-
  Several texts in one (merged by a program of mine): WorldMem, WorldLay, WorldLayS, WorldLift, WorldOps, ZooMem, WorldGet, ZooCells, ZooOps, WorldPut, WorldDrop.
-/
import Derived.Test.YtpgcghnlepnoiaaGreatDoorTP24
set_option linter.unusedVariables false
set_option linter.unusedSimpArgs false
set_option linter.unusedSectionVars false
/-
  A world in memory: a struct of slots, tables and places; the tables.
-/
namespace Go.Proofs.YtpgcghnlepnoiaaGreatDoor
open Go.RowKit

def pL (x : Int × Int) : List Int := [x.1, x.2]
def pV (x : Int × Int) : Value := .agg (ints (pL x))
@[go_sem] theorem pV_eq (a b : Int) : pV (a, b) = .agg #[.int .i64 a, .int .i64 b] := rfl
abbrev PlaceMap (pb : Nat) (ps : List (Int × (Int × Int))) : Assn := MapA (Value.int .i64) pV goodI pb ps
theorem zero_place (w : World) : (zeroValue 172).run Tryz.prog w = .ok (pV (0, 0)) w := by kernel_rfl
def wParts (p sp tb pb : Nat) (ls : List (Int × Bool)) (T : WT) : List Assn :=
  [Box p 99 #[.pointer (some ⟨sp, 0, none⟩), .map (some tb), .map (some pb)], SlotsA sp ls, PtrMap tb (T.ks.map fun K => (K, T.pt K)), PlaceMap pb T.ps] ++ T.ks.map fun K => Tbl (T.pt K) K (T.rw K)
/-- a world: its slots ls, its beasts f -/
def WorldA (p : Nat) (ls : List (Int × Bool)) (f : BF) : Assn where
  at_ w F := ∃ sp tb pb T, TRep T f ∧ Sep (wParts p sp tb pb ls T) w F
  frame h ho hd := by obtain ⟨sp, tb, pb, T, h1, hs⟩ := h; exact ⟨sp, tb, pb, T, h1, hs.frame ho hd⟩
  cut h hd := by obtain ⟨sp, tb, pb, T, h1, hs⟩ := h; exact ⟨sp, tb, pb, T, h1, hs.cut hd⟩
section
variable {G : Nat → Prop} {w0 w w' : World} {l : List Assn} {p sp tb pb : Nat} {ls : List (Int × Bool)} {f : BF} {T : WT}
theorem In.openW (h : In G w0 (WorldA p ls f :: l) w) : ∃ sp tb pb T, TRep T f ∧ In G w0 (wParts p sp tb pb ls T ++ l) w := by
  obtain ⟨⟨F1, F2, ⟨sp, tb, pb, T, hT, hs⟩, h2, h3, h4⟩, ho⟩ := h
  exact ⟨sp, tb, pb, T, hT, (Sep.join hs h2 h3).cut fun k _ hk => h4 k hk, ho⟩
theorem In.shutW (hT : TRep T f) (h : In G w0 (wParts p sp tb pb ls T ++ l) w) : In G w0 (WorldA p ls f :: l) w := by
  obtain ⟨hs, ho⟩ := h
  obtain ⟨F1, F2, h1, h2, h3, h4⟩ := Sep.part hs
  exact ⟨⟨F1, F2, ⟨sp, tb, pb, T, hT, h1⟩, h2, h3, h4⟩, ho⟩
end
/-- the tables -/
def tblOf (T : WT) (K : Int) : Assn := Tbl (T.pt K) K (T.rw K)
/-- the rest of a world -/
theorem wParts_perm (p sp tb pb : Nat) (ls : List (Int × Bool)) (T : WT) (l : List Assn) : (wParts p sp tb pb ls T ++ l).Perm
    (Box p 99 #[.pointer (some ⟨sp, 0, none⟩), .map (some tb), .map (some pb)] :: SlotsA sp ls :: PtrMap tb (T.ks.map fun K => (K, T.pt K)) :: PlaceMap pb T.ps :: (l ++ T.ks.map (tblOf T))) := by
  unfold wParts
  rw [List.append_assoc]
  exact List.Perm.append_left _ List.perm_append_comm
section
variable {G : Nat → Prop} {w0 w w' : World} {l : List Assn} {p sp tb pb : Nat} {ls : List (Int × Bool)} {f : BF} {T : WT}
theorem In.openWorld (h : In G w0 (WorldA p ls f :: l) w) : ∃ sp tb pb T, TRep T f ∧ In G w0 (Box p 99 #[.pointer (some ⟨sp, 0, none⟩), .map (some tb), .map (some pb)] :: SlotsA sp ls :: PtrMap tb (T.ks.map fun K => (K, T.pt K)) :: PlaceMap pb T.ps :: (l ++ T.ks.map (tblOf T))) w := by
  obtain ⟨sp, tb, pb, T, h1, h2⟩ := h.openW
  exact ⟨sp, tb, pb, T, h1, h2.perm (wParts_perm p sp tb pb ls T l)⟩
theorem In.shutWorld (hT : TRep T f) (h : In G w0 (Box p 99 #[.pointer (some ⟨sp, 0, none⟩), .map (some tb), .map (some pb)] :: SlotsA sp ls :: PtrMap tb (T.ks.map fun K => (K, T.pt K)) :: PlaceMap pb T.ps :: (l ++ T.ks.map (tblOf T))) w) : In G w0 (WorldA p ls f :: l) w :=
  In.shutW hT (h.perm (wParts_perm p sp tb pb ls T l).symm)
theorem nth_perm {α : Type} : ∀ (L : List α) (n : Nat) (hn : n < L.length), (L[n] :: L.eraseIdx n).Perm L
  | [], _, hn => by simp at hn
  | a :: L, 0, _ => List.Perm.refl _
  | a :: L, n + 1, hn => (List.Perm.swap _ _ _).trans ((nth_perm L n (by simpa using hn)).cons a)
theorem In.nth {L : List Assn} (h : In G w0 L w) (n : Nat) (hn : n < L.length) : In G w0 (L[n] :: L.eraseIdx n) w := h.perm (nth_perm L n hn).symm
theorem In.to4 {A B C P : Assn} (h : In G w0 (P :: A :: B :: C :: l) w) : In G w0 (A :: B :: C :: P :: l) w := h.perm ((List.Perm.swap A P _).trans (((List.Perm.swap B P _).trans ((List.Perm.swap C P _).cons B)).cons A))
theorem In.to3 {A B P : Assn} (h : In G w0 (P :: A :: B :: l) w) : In G w0 (A :: B :: P :: l) w := h.perm ((List.Perm.swap A P _).trans ((List.Perm.swap B P _).cons A))
theorem In.to5 {A B C D P : Assn} (h : In G w0 (P :: A :: B :: C :: D :: l) w) : In G w0 (A :: B :: C :: D :: P :: l) w := h.perm ((List.Perm.swap A P _).trans (((List.Perm.swap B P _).trans (((List.Perm.swap C P _).trans ((List.Perm.swap D P _).cons C)).cons B)).cons A))
/-- the first n of them in another order -/
theorem In.reorder {M : List Assn} (h : In G w0 M w) (n : Nat) (σ : List Nat) (hσ : σ.isPerm (List.range n) = true) (hn : n ≤ M.length) : In G w0 (σ.map (fun i => M.getD i (Box 0 0 #[])) ++ M.drop n) w := by
  refine h.perm ?_
  have e : M = (List.range n).map (fun i => M.getD i (Box 0 0 #[])) ++ M.drop n := by
    conv => lhs; rw [← List.take_append_drop n M]
    congr 1
    apply List.ext_getElem?
    intro i
    rw [List.getElem?_take, List.getElem?_map]
    by_cases hi : i < n
    · rw [if_pos hi, List.getElem?_range hi, List.getElem?_eq_getElem (by omega)]
      simp [List.getD_eq_getElem?_getD, List.getElem?_eq_getElem (show i < M.length by omega)]
    · rw [if_neg hi, List.getElem?_eq_none (by simp; omega)]; rfl
  conv => lhs; rw [e]
  exact List.Perm.append_right _ ((List.isPerm_iff.1 hσ).symm.map _)
/-- one table is brought to the front; and back -/
theorem In.pickT {X : List Assn} (h : In G w0 (X ++ T.ks.map (tblOf T)) w) {K : Int} (hK : K ∈ T.ks) : In G w0 (Tbl (T.pt K) K (T.rw K) :: (X ++ (T.ks.erase K).map (tblOf T))) w :=
  h.perm ((List.Perm.append_left X ((List.perm_cons_erase hK).map (tblOf T))).trans List.perm_middle)
theorem In.backT {X : List Assn} {K : Int} {rows : List RowM} {ks : List Int} {ps : List (Int × (Int × Int))} (hn : T.ks.Nodup) (hK : K ∈ T.ks) (h : In G w0 (Tbl (T.pt K) K rows :: (X ++ (T.ks.erase K).map (tblOf T))) w) : In G w0 (X ++ T.ks.map (tblOf ⟨ks, T.pt, updR T.rw K rows, ps⟩)) w := by
  refine h.perm (List.Perm.symm ?_)
  refine (List.Perm.append_left X ((List.perm_cons_erase hK).map _)).trans ?_
  rw [List.map_cons]
  have e1 : tblOf ⟨ks, T.pt, updR T.rw K rows, ps⟩ K = Tbl (T.pt K) K rows := by unfold tblOf; simp only [updR_same]
  have e2 : (T.ks.erase K).map (tblOf ⟨ks, T.pt, updR T.rw K rows, ps⟩) = (T.ks.erase K).map (tblOf T) := by
    apply List.map_congr_left
    intro j hj
    have : j ≠ K := by rintro rfl; exact (List.Nodup.not_mem_erase hn) hj
    unfold tblOf
    simp only [updR_other _ _ this]
  rw [e1, e2]
  exact List.perm_middle
theorem In.newT {X : List Assn} {K : Int} {q : Nat} {rows : List RowM} {ps : List (Int × (Int × Int))} (hK : K ∉ T.ks) (h : In G w0 (Tbl q K rows :: (X ++ T.ks.map (tblOf T))) w) : In G w0 (X ++ (T.ks ++ [K]).map (tblOf ⟨T.ks ++ [K], updR T.pt K q, updR T.rw K rows, ps⟩)) w := by
  refine h.perm ?_
  rw [List.map_append]
  have e1 : [K].map (tblOf ⟨T.ks ++ [K], updR T.pt K q, updR T.rw K rows, ps⟩) = [Tbl q K rows] := by unfold tblOf; simp only [List.map_cons, List.map_nil, updR_same]
  have e2 : T.ks.map (tblOf ⟨T.ks ++ [K], updR T.pt K q, updR T.rw K rows, ps⟩) = T.ks.map (tblOf T) := by
    apply List.map_congr_left
    intro j hj
    have : j ≠ K := fun e => hK (by rw [← e]; exact hj)
    unfold tblOf
    simp only [updR_other _ _ this]
  rw [e1, e2, ← List.append_assoc]
  exact (List.perm_append_singleton _ _).symm
theorem In.dropT2 {X : List Assn} {K : Int} {q : Nat} {rows rows' : List RowM} {ks : List Int} {ps : List (Int × (Int × Int))} (hn : T.ks.Nodup) (h : In G w0 (Tbl q K rows :: (X ++ (T.ks.erase K).map (tblOf T))) w) : In G w0 (X ++ (T.ks.filter fun k => !decide (k = K)).map (tblOf ⟨ks, T.pt, updR T.rw K rows', ps⟩)) w := by
  have h1 := h.drop
  have e : (T.ks.filter fun k => !decide (k = K)) = T.ks.erase K := by
    rw [hn.erase_eq_filter]
    apply List.filter_congr
    intro x _
    by_cases hx : x = K <;> simp [hx]
  have e2 : (T.ks.erase K).map (tblOf ⟨ks, T.pt, updR T.rw K rows', ps⟩) = (T.ks.erase K).map (tblOf T) := by
    apply List.map_congr_left
    intro j hj
    have : j ≠ K := by rintro rfl; exact (List.Nodup.not_mem_erase hn) hj
    unfold tblOf
    simp only [updR_other _ _ this]
  rw [e, e2]; exact h1
theorem In.dropT {X : List Assn} {K : Int} (hn : T.ks.Nodup) (hK : K ∈ T.ks) (h : In G w0 (X ++ T.ks.map (tblOf T)) w) : In G w0 (X ++ (T.ks.filter fun k => !decide (k = K)).map (tblOf T)) w := by
  have h1 := (h.pickT hK).drop
  have e : (T.ks.filter fun k => !decide (k = K)) = T.ks.erase K := by
    rw [hn.erase_eq_filter]
    apply List.filter_congr
    intro x _
    by_cases hx : x = K <;> simp [hx]
  rw [e]; exact h1
end
/-- rows of one table have slots of their own: there are not many -/
theorem TRep.rows_len {T : WT} {f : BF} (h : TRep T f) {K : Int} (hK : K ∈ T.ks) : (T.rw K).length ≤ 60 := by
  have hnd : ((T.rw K).map fun r => r.h.1).Nodup := by
    refine nodup_of fun i j x hij hi hj => ?_
    rw [List.getElem?_map] at hi hj
    obtain ⟨r, hr, rfl⟩ := Option.map_eq_some_iff.1 hi
    obtain ⟨r', hr', e⟩ := Option.map_eq_some_iff.1 hj
    obtain ⟨_, h1⟩ := h.at_ K hK i r hr
    obtain ⟨_, h2⟩ := h.at_ K hK j r' hr'
    rw [← e, h2] at h1
    injection h1 with h1
    injection h1 with _ h1
    omega
  have hsub : ∀ x ∈ (T.rw K).map (fun r => r.h.1), x ∈ (List.range 60).map (fun i : Nat => (i : Int)) := by
    intro x hx
    obtain ⟨r, hr, rfl⟩ := List.mem_map.1 hx
    obtain ⟨i, hi, hir⟩ := List.mem_iff_getElem.1 hr
    obtain ⟨h1, _⟩ := h.at_ K hK i r (by rw [List.getElem?_eq_getElem hi, hir])
    obtain ⟨_, _, h2, h3⟩ := h.ok _ _ _ h1
    exact List.mem_map.2 ⟨r.h.1.toNat, List.mem_range.2 (by omega), by omega⟩
  have := nodup_le hnd hsub
  simpa using this

section
variable {G : Nat → Prop} {w0 w : World} {l : List Assn} {p : Nat} {ls : List (Int × Bool)} {f : BF}
/-- the slots of a world -/
theorem In.slotsOf (h : In G w0 (WorldA p ls f :: l) w) : ∃ sp F, (∀ n : After w, n.w.cell? ⟨p, 0, none⟩ = some (.pointer (some ⟨sp, 0, none⟩))) ∧ (∀ n : After w, SlotsAt n.w sp ls F) := by
  obtain ⟨sp, tb, pb, T, hT, hI⟩ := h.openWorld
  obtain ⟨F1, hS⟩ := hI.swap.head
  exact ⟨sp, F1, fun n => (hI.blk.after n.below).cell 0, fun n => ColAt.after hS n.below⟩
end

end Go.Proofs.YtpgcghnlepnoiaaGreatDoor

/-
  The contract of world.lay.
-/
namespace Go.Proofs.YtpgcghnlepnoiaaGreatDoor
open Go.RowKit

theorem kK {b : Beast} (h : beastErr b = 0) : 0 ≤ b.k ∧ b.k ≤ 255 := (beast_ok b h).1
theorem zero_tbl (w : World) : (zeroValue 136).run Tryz.prog w = .ok (.pointer none) w := by kernel_rfl
theorem pt_keys (T : WT) : mkeys (T.ks.map fun K => (K, T.pt K)) = T.ks := by
  unfold mkeys
  rw [List.map_map]
  conv => rhs; rw [← List.map_id T.ks]
  exact List.map_congr_left fun _ _ => rfl
theorem pt_get (T : WT) (K : Int) : mget (T.ks.map fun K => (K, T.pt K)) K = if K ∈ T.ks then some (T.pt K) else none := by
  split
  · rename_i h
    unfold mget
    have : ∀ (l : List Int), K ∈ l → (l.map fun K => (K, T.pt K)).find? (fun p => decide (p.1 = K)) = some (K, T.pt K) := by
      intro l
      induction l with
      | nil => simp
      | cons a l ih =>
        intro hm
        rw [List.map_cons, List.find?_cons]
        by_cases e : a = K
        · simp [e]
        · rw [decide_eq_false e]
          exact ih (by rcases List.mem_cons.1 hm with h | h; exact absurd h.symm e; exact h)
    rw [this _ h]; rfl
  · rename_i h
    rw [mget_none, pt_keys]; exact h
theorem pt_put (T : WT) (K : Int) (p : Nat) (h : K ∉ T.ks) : mput (T.ks.map fun K => (K, T.pt K)) K p = (T.ks ++ [K]).map fun k => (k, updR T.pt K p k) := by
  unfold mput
  rw [if_neg]
  · rw [List.map_append]
    congr 1
    · apply List.map_congr_left
      intro k hk
      rw [updR_other _ _ (fun e => h (by rw [← e]; exact hk))]
    · simp [updR_same]
  · intro ha
    obtain ⟨q, hq, e⟩ := List.any_eq_true.1 ha
    obtain ⟨k, hk, rfl⟩ := List.mem_map.1 hq
    exact h (by simpa using (by simpa using e : k = K) ▸ hk)

set_option maxHeartbeats 4000000 in
set_option maxRecDepth 100000 in
theorem lay_in {G : Nat → Prop} {w0 w : World} {l : List Assn} {p : Nat} {ls : List (Int × Bool)} {f : BF} (h : In G w0 (WorldA p ls f :: l) w) (s g : Int) (b : Beast) (hf : f s = none) (hb : beastErr b = 0 ∧ b.v.length = 8 ∧ 0 ≤ s ∧ s < 60) :
    Calls Tryz.prog 75 #[.pointer (some ⟨p, 0, none⟩), .agg #[.int .i64 s, .int .i64 g], .agg (ints b.list)] w fun e w' => e = .returned (.tuple #[]) ∧ In G w0 (WorldA p ls (updB f s (some (g, b))) :: l) w' := by
  obtain ⟨sp, tb, pb, T, hT, hI⟩ := h.openWorld
  have hk := kK hb.1
  have HT := Lib.hid hT
  have HF := Lib.hid hf
  have HB := Lib.hid hb
  have HI0 := Lib.hid hI
  have HK := Lib.hid hk
  clear h hT hI hf hb hk
  have hbl : b.list.length = 9 := by unfold Beast.list; rw [List.length_cons, HB.out.2.1]
  go_enter Tryz.func75, Tryz.ntmps75
  go_upto_region 1 with (fail)
  refine wp_abs (In G w0 (Box (w.heap.size + 1) 49 (ints b.list) :: Box w.heap.size 46 (ints [s, g]) :: Box p 99 #[.pointer (some ⟨sp, 0, none⟩), .map (some tb), .map (some pb)] :: SlotsA sp ls :: PtrMap tb (T.ks.map fun K => (K, T.pt K)) :: PlaceMap pb T.ps :: (l ++ T.ks.map (tblOf T)))) (by
    have := (HI0.out.alloc 46 (ints [s, g])).alloc 49 (ints b.list)
    rw [World.size_alloc] at this
    exact this) ?_
  generalize w.heap.size + 1 = bb
  generalize w.heap.size = hb
  intro w1 hI1
  have c1 : ∀ n : After w1, n.w.cell? ⟨p, 1, none⟩ = some (.map (some tb)) := fun n => (hI1.third.blk.after n.below).cell 1
  have c2 : ∀ n : After w1, n.w.cell? ⟨bb, 0, none⟩ = some (.int .i64 b.k) := fun n => (hI1.blk.after n.below).cell 0
  have hmap := (hI1.nth 4 (by simp)).mapAt
  have hlook : ∀ n : After w1, (Instr.lookup 96 (.map (some tb)) (.int .i64 b.k) true).run Tryz.prog n.w = .ok (if b.k ∈ T.ks then .tuple #[.pointer (some ⟨T.pt b.k, 0, none⟩), .bool true] else .tuple #[.pointer none, .bool false]) n.w := fun n => by
    rw [(hmap.after n.below).look keyI Tryz.underlying96 (zero_tbl n.w) (x := b.k) (wf_small (by have := HK.out; omega)) true, pt_get]
    by_cases e : b.k ∈ T.ks
    · rw [if_pos e, if_pos e]; rfl
    · rw [if_neg e, if_neg e]; rfl
  have HI1 := Lib.hid hI1
  clear hI1 HI0 hmap
  by_cases hK : b.k ∈ T.ks
  · rw [if_pos hK] at hlook
    have HKS := Lib.hid hK
    clear hK
    refine wp_region_after (by kernel_rfl) (by kernel_rfl) ?_
    repeat (go_big_quiet_step (fail))
    refine wpQuiet_nil ?_
    rintro _ ⟨n, rfl⟩
    have hI2 := HI1.out.below n.below
    generalize n.w = w2 at *
    have k1 : row? w2 bb 0 9 = some (ints b.list) := hI2.blk.row_all hbl
    have k2 : row? w2 hb 0 2 = some (ints [s, g]) := hI2.swap.blk.row_all rfl
    have HI2 := Lib.hid hI2
    clear hI2 c1 c2 hlook HI1
    have hI3 : In G w0 (Tbl (T.pt b.k) b.k (T.rw b.k) :: (Box bb 49 (ints b.list) :: Box hb 46 (ints [s, g]) :: Box p 99 #[.pointer (some ⟨sp, 0, none⟩), .map (some tb), .map (some pb)] :: SlotsA sp ls :: PtrMap tb (T.ks.map fun K => (K, T.pt K)) :: PlaceMap pb T.ps :: l ++ (T.ks.erase b.k).map (tblOf T))) w2 :=
      In.pickT (X := Box bb 49 (ints b.list) :: Box hb 46 (ints [s, g]) :: Box p 99 #[.pointer (some ⟨sp, 0, none⟩), .map (some tb), .map (some pb)] :: SlotsA sp ls :: PtrMap tb (T.ks.map fun K => (K, T.pt K)) :: PlaceMap pb T.ps :: l) HI2.out HKS.out
    have HAD : Hid (addR b.k (T.rw b.k) ⟨(s, g), b⟩ = (T.rw b.k ++ [⟨(s, g), b⟩], (((T.rw b.k).length : Nat) : Int), 0)) := by
      unfold Hid addR
      rw [if_neg (by simpa using HB.out.1), if_neg (by simp)]
    have hl60 := HT.out.rows_len HKS.out
    have HADD := Lib.hid (tadd_in hI3 s g b HB.out.2.1 (by omega))
    rw [HAD.out] at HADD
    clear hI3
    go_wp2_with fail
    refine HADD.out.mono ?_
    rintro e w3 ⟨rfl, hI4⟩
    have hI4 : In G w0 (Box bb 49 (ints b.list) :: Box hb 46 (ints [s, g]) :: Box p 99 #[.pointer (some ⟨sp, 0, none⟩), .map (some tb), .map (some pb)] :: SlotsA sp ls :: PtrMap tb (T.ks.map fun K => (K, T.pt K)) :: PlaceMap pb T.ps :: (l ++ T.ks.map (tblOf ⟨T.ks, T.pt, updR T.rw b.k (T.rw b.k ++ [⟨(s, g), b⟩]), mput T.ps s (b.k, ((T.rw b.k).length : Int))⟩))) w3 :=
      In.backT (X := Box bb 49 (ints b.list) :: Box hb 46 (ints [s, g]) :: Box p 99 #[.pointer (some ⟨sp, 0, none⟩), .map (some tb), .map (some pb)] :: SlotsA sp ls :: PtrMap tb (T.ks.map fun K => (K, T.pt K)) :: PlaceMap pb T.ps :: l) HT.out.nd HKS.out hI4
    have HREP := Lib.hid (HT.out.lay_old (g := g) HF.out HB.out HKS.out)
    have q1 : w3.cell? ⟨p, 2, none⟩ = some (.map (some pb)) := hI4.third.blk.cell 2
    have q2 : w3.cell? ⟨hb, 0, none⟩ = some (.int .i64 s) := hI4.swap.blk.cell 0
    have q3 : w3.cell? ⟨bb, 0, none⟩ = some (.int .i64 b.k) := hI4.blk.cell 0
    have HI4 := Lib.hid hI4
    clear hI4 HI2 HADD HAD k1 k2
    go_upto_region 6 with (fail)
    go_still_tail 10, (by kernel_rfl)
    change wpList _ _ _ _ _ w3.drew
    have HI5 := Lib.hid HI4.out.drew
    clear HI4 q1 q2 q3
    generalize w3.drew = w4 at *
    have HP := Lib.hid (HI5.out.nth 5 (by simp)).mapAt
    go_wp2_with (at_mapUpdate; go_loud (refine wpList_store keyI rfl _ _ _ 97 172 rfl Tryz.underlying97 pb _ rfl HP.out s rfl (wf_small (by have := HB.out.2.2; omega)) (b.k, ((T.rw b.k).length : Int)) rfl ?_))
    intro w5 h1 h2 h3
    have hI6 : In G w0 (PlaceMap pb (mput T.ps s (b.k, ((T.rw b.k).length : Int))) :: Box bb 49 (ints b.list) :: Box hb 46 (ints [s, g]) :: Box p 99 #[.pointer (some ⟨sp, 0, none⟩), .map (some tb), .map (some pb)] :: SlotsA sp ls :: PtrMap tb (T.ks.map fun K => (K, T.pt K)) :: (l ++ T.ks.map (tblOf ⟨T.ks, T.pt, updR T.rw b.k (T.rw b.k ++ [⟨(s, g), b⟩]), mput T.ps s (b.k, ((T.rw b.k).length : Int))⟩))) w5 := In.mapped (HI5.out.nth 5 (by simp)) h1 h2
    clear h1 h2 h3
    have HI6 := Lib.hid hI6.swap.drop.swap.drop.to4
    clear hI6 HP HI5
    go_wp2_with fail
    go_end0
    exact ⟨rfl, In.shutWorld HREP.out HI6.out⟩
  · rw [if_neg hK] at hlook
    have HKS := Lib.hid hK
    clear hK
    refine wp_region_after (by kernel_rfl) (by kernel_rfl) ?_
    repeat (go_big_quiet_step (fail))
    refine wpQuiet_nil ?_
    rintro _ ⟨n, rfl⟩
    have hI2 := HI1.out.below n.below
    generalize n.w = w2 at *
    have k1 : w2.cell? ⟨bb, 0, none⟩ = some (.int .i64 b.k) := hI2.blk.cell 0
    have HI2 := Lib.hid hI2
    clear hI2 c1 c2 hlook HI1
    go_wp2_with fail
    refine (tnew_in b.k HK.out HI2.out).mono ?_
    rintro e w3 ⟨q, rfl, hI3⟩
    have q1 : w3.cell? ⟨p, 1, none⟩ = some (.map (some tb)) := hI3.fourth.blk.cell 1
    have q2 : w3.cell? ⟨bb, 0, none⟩ = some (.int .i64 b.k) := hI3.swap.blk.cell 0
    have HI3 := Lib.hid hI3
    clear hI3 HI2 k1
    go_upto_region 4 with (fail)
    go_still_tail 7, (by kernel_rfl)
    change wpList _ _ _ _ _ w3.drew
    have HI4 := Lib.hid HI3.out.drew
    clear HI3 q1 q2
    generalize w3.drew = w4 at *
    have HP := Lib.hid (HI4.out.nth 5 (by simp)).mapAt
    go_wp2_with (at_mapUpdate; go_loud (refine wpList_store keyI rfl _ _ _ 96 136 rfl Tryz.underlying96 tb _ rfl HP.out b.k rfl (wf_small (by have := HK.out; omega)) q rfl ?_))
    intro w5 h1 h2 h3
    have hI5 : In G w0 (PtrMap tb (mput (T.ks.map fun K => (K, T.pt K)) b.k q) :: Tbl q b.k [] :: Box bb 49 (ints b.list) :: Box hb 46 (ints [s, g]) :: Box p 99 #[.pointer (some ⟨sp, 0, none⟩), .map (some tb), .map (some pb)] :: SlotsA sp ls :: PlaceMap pb T.ps :: (l ++ T.ks.map (tblOf T))) w5 := In.mapped (HI4.out.nth 5 (by simp)) h1 h2
    rw [pt_put T b.k q HKS.out] at hI5
    have k1 : row? w5 bb 0 9 = some (ints b.list) := hI5.third.blk.row_all hbl
    have k2 : row? w5 hb 0 2 = some (ints [s, g]) := hI5.fourth.blk.row_all rfl
    have HI5 := Lib.hid hI5.swap
    clear hI5 h1 h2 h3 HP HI4
    have HAD : Hid (addR b.k [] ⟨(s, g), b⟩ = ([⟨(s, g), b⟩], 0, 0)) := by
      unfold Hid addR
      rw [if_neg (by simpa using HB.out.1), if_neg (by simp)]; rfl
    have HADD := Lib.hid (tadd_in HI5.out s g b HB.out.2.1 (by simp))
    rw [HAD.out] at HADD
    go_wp2_with fail
    refine HADD.out.mono ?_
    rintro e w6 ⟨rfl, hI6⟩
    have hI7 : In G w0 (PtrMap tb ((T.ks ++ [b.k]).map fun k => (k, updR T.pt b.k q k)) :: Box bb 49 (ints b.list) :: Box hb 46 (ints [s, g]) :: Box p 99 #[.pointer (some ⟨sp, 0, none⟩), .map (some tb), .map (some pb)] :: SlotsA sp ls :: PlaceMap pb T.ps :: (l ++ (T.ks ++ [b.k]).map (tblOf ⟨T.ks ++ [b.k], updR T.pt b.k q, updR T.rw b.k [⟨(s, g), b⟩], mput T.ps s (b.k, 0)⟩))) w6 :=
      In.newT (X := PtrMap tb ((T.ks ++ [b.k]).map fun k => (k, updR T.pt b.k q k)) :: Box bb 49 (ints b.list) :: Box hb 46 (ints [s, g]) :: Box p 99 #[.pointer (some ⟨sp, 0, none⟩), .map (some tb), .map (some pb)] :: SlotsA sp ls :: PlaceMap pb T.ps :: l) HKS.out hI6
    have HREP := Lib.hid (HT.out.lay_new (g := g) HF.out HB.out HKS.out q)
    have q1 : w6.cell? ⟨p, 2, none⟩ = some (.map (some pb)) := hI7.fourth.blk.cell 2
    have q2 : w6.cell? ⟨hb, 0, none⟩ = some (.int .i64 s) := hI7.third.blk.cell 0
    have q3 : w6.cell? ⟨bb, 0, none⟩ = some (.int .i64 b.k) := hI7.swap.blk.cell 0
    have HI7 := Lib.hid hI7
    clear hI7 hI6 HI5 HADD HAD k1 k2
    go_upto_region 6 with (fail)
    go_still_tail 10, (by kernel_rfl)
    change wpList _ _ _ _ _ w6.drew
    have HI8 := Lib.hid HI7.out.drew
    clear HI7 q1 q2 q3
    generalize w6.drew = w7 at *
    have HP := Lib.hid (HI8.out.nth 5 (by simp)).mapAt
    go_wp2_with (at_mapUpdate; go_loud (refine wpList_store keyI rfl _ _ _ 97 172 rfl Tryz.underlying97 pb _ rfl HP.out s rfl (wf_small (by have := HB.out.2.2; omega)) (b.k, 0) rfl ?_))
    intro w8 h1 h2 h3
    have hI9 : In G w0 (PlaceMap pb (mput T.ps s (b.k, 0)) :: PtrMap tb ((T.ks ++ [b.k]).map fun k => (k, updR T.pt b.k q k)) :: Box bb 49 (ints b.list) :: Box hb 46 (ints [s, g]) :: Box p 99 #[.pointer (some ⟨sp, 0, none⟩), .map (some tb), .map (some pb)] :: SlotsA sp ls :: (l ++ (T.ks ++ [b.k]).map (tblOf ⟨T.ks ++ [b.k], updR T.pt b.k q, updR T.rw b.k [⟨(s, g), b⟩], mput T.ps s (b.k, 0)⟩))) w8 := In.mapped (HI8.out.nth 5 (by simp)) h1 h2
    clear h1 h2 h3
    have HI9 : Hid (In G w0 (Box p 99 #[.pointer (some ⟨sp, 0, none⟩), .map (some tb), .map (some pb)] :: SlotsA sp ls :: PtrMap tb ((T.ks ++ [b.k]).map fun k => (k, updR T.pt b.k q k)) :: PlaceMap pb (mput T.ps s (b.k, 0)) :: (l ++ (T.ks ++ [b.k]).map (tblOf ⟨T.ks ++ [b.k], updR T.pt b.k q, updR T.rw b.k [⟨(s, g), b⟩], mput T.ps s (b.k, 0)⟩))) w8) :=
      hI9.swap.third.drop.third.drop.swap.to4.to3
    clear hI9 HP HI8
    go_wp2_with fail
    go_end0
    exact ⟨rfl, In.shutWorld HREP.out HI9.out⟩

end Go.Proofs.YtpgcghnlepnoiaaGreatDoor

/-
  A world whose slots lie at a known place, and the contract of world.lay there (printed by wip/gen_layS.py from my own text WorldLay).
-/
namespace Go.Proofs.YtpgcghnlepnoiaaGreatDoor
open Go.RowKit

def WorldS (p sp : Nat) (ls : List (Int × Bool)) (f : BF) : Assn where
  at_ w F := ∃ tb pb T, TRep T f ∧ Sep (wParts p sp tb pb ls T) w F
  frame h ho hd := by obtain ⟨tb, pb, T, h1, hs⟩ := h; exact ⟨tb, pb, T, h1, hs.frame ho hd⟩
  cut h hd := by obtain ⟨tb, pb, T, h1, hs⟩ := h; exact ⟨tb, pb, T, h1, hs.cut hd⟩
section
variable {G : Nat → Prop} {w0 w w' : World} {l : List Assn} {p sp tb pb : Nat} {ls : List (Int × Bool)} {f : BF} {T : WT}
theorem In.openWorldS (h : In G w0 (WorldS p sp ls f :: l) w) : ∃ tb pb T, TRep T f ∧ In G w0 (Box p 99 #[.pointer (some ⟨sp, 0, none⟩), .map (some tb), .map (some pb)] :: SlotsA sp ls :: PtrMap tb (T.ks.map fun K => (K, T.pt K)) :: PlaceMap pb T.ps :: (l ++ T.ks.map (tblOf T))) w := by
  obtain ⟨⟨F1, F2, ⟨tb, pb, T, hT, hs⟩, h2, h3, h4⟩, ho⟩ := h
  have h5 : In G w0 (wParts p sp tb pb ls T ++ l) w := ⟨(Sep.join hs h2 h3).cut fun k _ hk => h4 k hk, ho⟩
  exact ⟨tb, pb, T, hT, h5.perm (wParts_perm p sp tb pb ls T l)⟩
theorem In.shutWorldS (hT : TRep T f) (h : In G w0 (Box p 99 #[.pointer (some ⟨sp, 0, none⟩), .map (some tb), .map (some pb)] :: SlotsA sp ls :: PtrMap tb (T.ks.map fun K => (K, T.pt K)) :: PlaceMap pb T.ps :: (l ++ T.ks.map (tblOf T))) w) : In G w0 (WorldS p sp ls f :: l) w := by
  have h := h.perm (wParts_perm p sp tb pb ls T l).symm
  obtain ⟨hs, ho⟩ := h
  obtain ⟨F1, F2, h1, h2, h3, h4⟩ := Sep.part hs
  exact ⟨⟨F1, F2, ⟨tb, pb, T, hT, h1⟩, h2, h3, h4⟩, ho⟩
theorem In.worldOf (h : In G w0 (WorldS p sp ls f :: l) w) : In G w0 (WorldA p ls f :: l) w := by
  obtain ⟨tb, pb, T, hT, hI⟩ := h.openWorldS
  exact In.shutWorld hT hI
theorem In.worldS (h : In G w0 (WorldA p ls f :: l) w) : ∃ sp, In G w0 (WorldS p sp ls f :: l) w := by
  obtain ⟨sp, tb, pb, T, hT, hI⟩ := h.openWorld
  exact ⟨sp, In.shutWorldS hT hI⟩
end
set_option maxHeartbeats 4000000 in
set_option maxRecDepth 100000 in
theorem layS_in {G : Nat → Prop} {w0 w : World} {l : List Assn} {p sp : Nat} {ls : List (Int × Bool)} {f : BF} (h : In G w0 (WorldS p sp ls f :: l) w) (s g : Int) (b : Beast) (hf : f s = none) (hb : beastErr b = 0 ∧ b.v.length = 8 ∧ 0 ≤ s ∧ s < 60) :
    Calls Tryz.prog 75 #[.pointer (some ⟨p, 0, none⟩), .agg #[.int .i64 s, .int .i64 g], .agg (ints b.list)] w fun e w' => e = .returned (.tuple #[]) ∧ In G w0 (WorldS p sp ls (updB f s (some (g, b))) :: l) w' := by
  obtain ⟨tb, pb, T, hT, hI⟩ := h.openWorldS
  have hk := kK hb.1
  have HT := Lib.hid hT
  have HF := Lib.hid hf
  have HB := Lib.hid hb
  have HI0 := Lib.hid hI
  have HK := Lib.hid hk
  clear h hT hI hf hb hk
  have hbl : b.list.length = 9 := by unfold Beast.list; rw [List.length_cons, HB.out.2.1]
  go_enter Tryz.func75, Tryz.ntmps75
  go_upto_region 1 with (fail)
  refine wp_abs (In G w0 (Box (w.heap.size + 1) 49 (ints b.list) :: Box w.heap.size 46 (ints [s, g]) :: Box p 99 #[.pointer (some ⟨sp, 0, none⟩), .map (some tb), .map (some pb)] :: SlotsA sp ls :: PtrMap tb (T.ks.map fun K => (K, T.pt K)) :: PlaceMap pb T.ps :: (l ++ T.ks.map (tblOf T)))) (by
    have := (HI0.out.alloc 46 (ints [s, g])).alloc 49 (ints b.list)
    rw [World.size_alloc] at this
    exact this) ?_
  generalize w.heap.size + 1 = bb
  generalize w.heap.size = hb
  intro w1 hI1
  have c1 : ∀ n : After w1, n.w.cell? ⟨p, 1, none⟩ = some (.map (some tb)) := fun n => (hI1.third.blk.after n.below).cell 1
  have c2 : ∀ n : After w1, n.w.cell? ⟨bb, 0, none⟩ = some (.int .i64 b.k) := fun n => (hI1.blk.after n.below).cell 0
  have hmap := (hI1.nth 4 (by simp)).mapAt
  have hlook : ∀ n : After w1, (Instr.lookup 96 (.map (some tb)) (.int .i64 b.k) true).run Tryz.prog n.w = .ok (if b.k ∈ T.ks then .tuple #[.pointer (some ⟨T.pt b.k, 0, none⟩), .bool true] else .tuple #[.pointer none, .bool false]) n.w := fun n => by
    rw [(hmap.after n.below).look keyI Tryz.underlying96 (zero_tbl n.w) (x := b.k) (wf_small (by have := HK.out; omega)) true, pt_get]
    by_cases e : b.k ∈ T.ks
    · rw [if_pos e, if_pos e]; rfl
    · rw [if_neg e, if_neg e]; rfl
  have HI1 := Lib.hid hI1
  clear hI1 HI0 hmap
  by_cases hK : b.k ∈ T.ks
  · rw [if_pos hK] at hlook
    have HKS := Lib.hid hK
    clear hK
    refine wp_region_after (by kernel_rfl) (by kernel_rfl) ?_
    repeat (go_big_quiet_step (fail))
    refine wpQuiet_nil ?_
    rintro _ ⟨n, rfl⟩
    have hI2 := HI1.out.below n.below
    generalize n.w = w2 at *
    have k1 : row? w2 bb 0 9 = some (ints b.list) := hI2.blk.row_all hbl
    have k2 : row? w2 hb 0 2 = some (ints [s, g]) := hI2.swap.blk.row_all rfl
    have HI2 := Lib.hid hI2
    clear hI2 c1 c2 hlook HI1
    have hI3 : In G w0 (Tbl (T.pt b.k) b.k (T.rw b.k) :: (Box bb 49 (ints b.list) :: Box hb 46 (ints [s, g]) :: Box p 99 #[.pointer (some ⟨sp, 0, none⟩), .map (some tb), .map (some pb)] :: SlotsA sp ls :: PtrMap tb (T.ks.map fun K => (K, T.pt K)) :: PlaceMap pb T.ps :: l ++ (T.ks.erase b.k).map (tblOf T))) w2 :=
      In.pickT (X := Box bb 49 (ints b.list) :: Box hb 46 (ints [s, g]) :: Box p 99 #[.pointer (some ⟨sp, 0, none⟩), .map (some tb), .map (some pb)] :: SlotsA sp ls :: PtrMap tb (T.ks.map fun K => (K, T.pt K)) :: PlaceMap pb T.ps :: l) HI2.out HKS.out
    have HAD : Hid (addR b.k (T.rw b.k) ⟨(s, g), b⟩ = (T.rw b.k ++ [⟨(s, g), b⟩], (((T.rw b.k).length : Nat) : Int), 0)) := by
      unfold Hid addR
      rw [if_neg (by simpa using HB.out.1), if_neg (by simp)]
    have hl60 := HT.out.rows_len HKS.out
    have HADD := Lib.hid (tadd_in hI3 s g b HB.out.2.1 (by omega))
    rw [HAD.out] at HADD
    clear hI3
    go_wp2_with fail
    refine HADD.out.mono ?_
    rintro e w3 ⟨rfl, hI4⟩
    have hI4 : In G w0 (Box bb 49 (ints b.list) :: Box hb 46 (ints [s, g]) :: Box p 99 #[.pointer (some ⟨sp, 0, none⟩), .map (some tb), .map (some pb)] :: SlotsA sp ls :: PtrMap tb (T.ks.map fun K => (K, T.pt K)) :: PlaceMap pb T.ps :: (l ++ T.ks.map (tblOf ⟨T.ks, T.pt, updR T.rw b.k (T.rw b.k ++ [⟨(s, g), b⟩]), mput T.ps s (b.k, ((T.rw b.k).length : Int))⟩))) w3 :=
      In.backT (X := Box bb 49 (ints b.list) :: Box hb 46 (ints [s, g]) :: Box p 99 #[.pointer (some ⟨sp, 0, none⟩), .map (some tb), .map (some pb)] :: SlotsA sp ls :: PtrMap tb (T.ks.map fun K => (K, T.pt K)) :: PlaceMap pb T.ps :: l) HT.out.nd HKS.out hI4
    have HREP := Lib.hid (HT.out.lay_old (g := g) HF.out HB.out HKS.out)
    have q1 : w3.cell? ⟨p, 2, none⟩ = some (.map (some pb)) := hI4.third.blk.cell 2
    have q2 : w3.cell? ⟨hb, 0, none⟩ = some (.int .i64 s) := hI4.swap.blk.cell 0
    have q3 : w3.cell? ⟨bb, 0, none⟩ = some (.int .i64 b.k) := hI4.blk.cell 0
    have HI4 := Lib.hid hI4
    clear hI4 HI2 HADD HAD k1 k2
    go_upto_region 6 with (fail)
    go_still_tail 10, (by kernel_rfl)
    change wpList _ _ _ _ _ w3.drew
    have HI5 := Lib.hid HI4.out.drew
    clear HI4 q1 q2 q3
    generalize w3.drew = w4 at *
    have HP := Lib.hid (HI5.out.nth 5 (by simp)).mapAt
    go_wp2_with (at_mapUpdate; go_loud (refine wpList_store keyI rfl _ _ _ 97 172 rfl Tryz.underlying97 pb _ rfl HP.out s rfl (wf_small (by have := HB.out.2.2; omega)) (b.k, ((T.rw b.k).length : Int)) rfl ?_))
    intro w5 h1 h2 h3
    have hI6 : In G w0 (PlaceMap pb (mput T.ps s (b.k, ((T.rw b.k).length : Int))) :: Box bb 49 (ints b.list) :: Box hb 46 (ints [s, g]) :: Box p 99 #[.pointer (some ⟨sp, 0, none⟩), .map (some tb), .map (some pb)] :: SlotsA sp ls :: PtrMap tb (T.ks.map fun K => (K, T.pt K)) :: (l ++ T.ks.map (tblOf ⟨T.ks, T.pt, updR T.rw b.k (T.rw b.k ++ [⟨(s, g), b⟩]), mput T.ps s (b.k, ((T.rw b.k).length : Int))⟩))) w5 := In.mapped (HI5.out.nth 5 (by simp)) h1 h2
    clear h1 h2 h3
    have HI6 := Lib.hid hI6.swap.drop.swap.drop.to4
    clear hI6 HP HI5
    go_wp2_with fail
    go_end0
    exact ⟨rfl, In.shutWorldS HREP.out HI6.out⟩
  · rw [if_neg hK] at hlook
    have HKS := Lib.hid hK
    clear hK
    refine wp_region_after (by kernel_rfl) (by kernel_rfl) ?_
    repeat (go_big_quiet_step (fail))
    refine wpQuiet_nil ?_
    rintro _ ⟨n, rfl⟩
    have hI2 := HI1.out.below n.below
    generalize n.w = w2 at *
    have k1 : w2.cell? ⟨bb, 0, none⟩ = some (.int .i64 b.k) := hI2.blk.cell 0
    have HI2 := Lib.hid hI2
    clear hI2 c1 c2 hlook HI1
    go_wp2_with fail
    refine (tnew_in b.k HK.out HI2.out).mono ?_
    rintro e w3 ⟨q, rfl, hI3⟩
    have q1 : w3.cell? ⟨p, 1, none⟩ = some (.map (some tb)) := hI3.fourth.blk.cell 1
    have q2 : w3.cell? ⟨bb, 0, none⟩ = some (.int .i64 b.k) := hI3.swap.blk.cell 0
    have HI3 := Lib.hid hI3
    clear hI3 HI2 k1
    go_upto_region 4 with (fail)
    go_still_tail 7, (by kernel_rfl)
    change wpList _ _ _ _ _ w3.drew
    have HI4 := Lib.hid HI3.out.drew
    clear HI3 q1 q2
    generalize w3.drew = w4 at *
    have HP := Lib.hid (HI4.out.nth 5 (by simp)).mapAt
    go_wp2_with (at_mapUpdate; go_loud (refine wpList_store keyI rfl _ _ _ 96 136 rfl Tryz.underlying96 tb _ rfl HP.out b.k rfl (wf_small (by have := HK.out; omega)) q rfl ?_))
    intro w5 h1 h2 h3
    have hI5 : In G w0 (PtrMap tb (mput (T.ks.map fun K => (K, T.pt K)) b.k q) :: Tbl q b.k [] :: Box bb 49 (ints b.list) :: Box hb 46 (ints [s, g]) :: Box p 99 #[.pointer (some ⟨sp, 0, none⟩), .map (some tb), .map (some pb)] :: SlotsA sp ls :: PlaceMap pb T.ps :: (l ++ T.ks.map (tblOf T))) w5 := In.mapped (HI4.out.nth 5 (by simp)) h1 h2
    rw [pt_put T b.k q HKS.out] at hI5
    have k1 : row? w5 bb 0 9 = some (ints b.list) := hI5.third.blk.row_all hbl
    have k2 : row? w5 hb 0 2 = some (ints [s, g]) := hI5.fourth.blk.row_all rfl
    have HI5 := Lib.hid hI5.swap
    clear hI5 h1 h2 h3 HP HI4
    have HAD : Hid (addR b.k [] ⟨(s, g), b⟩ = ([⟨(s, g), b⟩], 0, 0)) := by
      unfold Hid addR
      rw [if_neg (by simpa using HB.out.1), if_neg (by simp)]; rfl
    have HADD := Lib.hid (tadd_in HI5.out s g b HB.out.2.1 (by simp))
    rw [HAD.out] at HADD
    go_wp2_with fail
    refine HADD.out.mono ?_
    rintro e w6 ⟨rfl, hI6⟩
    have hI7 : In G w0 (PtrMap tb ((T.ks ++ [b.k]).map fun k => (k, updR T.pt b.k q k)) :: Box bb 49 (ints b.list) :: Box hb 46 (ints [s, g]) :: Box p 99 #[.pointer (some ⟨sp, 0, none⟩), .map (some tb), .map (some pb)] :: SlotsA sp ls :: PlaceMap pb T.ps :: (l ++ (T.ks ++ [b.k]).map (tblOf ⟨T.ks ++ [b.k], updR T.pt b.k q, updR T.rw b.k [⟨(s, g), b⟩], mput T.ps s (b.k, 0)⟩))) w6 :=
      In.newT (X := PtrMap tb ((T.ks ++ [b.k]).map fun k => (k, updR T.pt b.k q k)) :: Box bb 49 (ints b.list) :: Box hb 46 (ints [s, g]) :: Box p 99 #[.pointer (some ⟨sp, 0, none⟩), .map (some tb), .map (some pb)] :: SlotsA sp ls :: PlaceMap pb T.ps :: l) HKS.out hI6
    have HREP := Lib.hid (HT.out.lay_new (g := g) HF.out HB.out HKS.out q)
    have q1 : w6.cell? ⟨p, 2, none⟩ = some (.map (some pb)) := hI7.fourth.blk.cell 2
    have q2 : w6.cell? ⟨hb, 0, none⟩ = some (.int .i64 s) := hI7.third.blk.cell 0
    have q3 : w6.cell? ⟨bb, 0, none⟩ = some (.int .i64 b.k) := hI7.swap.blk.cell 0
    have HI7 := Lib.hid hI7
    clear hI7 hI6 HI5 HADD HAD k1 k2
    go_upto_region 6 with (fail)
    go_still_tail 10, (by kernel_rfl)
    change wpList _ _ _ _ _ w6.drew
    have HI8 := Lib.hid HI7.out.drew
    clear HI7 q1 q2 q3
    generalize w6.drew = w7 at *
    have HP := Lib.hid (HI8.out.nth 5 (by simp)).mapAt
    go_wp2_with (at_mapUpdate; go_loud (refine wpList_store keyI rfl _ _ _ 97 172 rfl Tryz.underlying97 pb _ rfl HP.out s rfl (wf_small (by have := HB.out.2.2; omega)) (b.k, 0) rfl ?_))
    intro w8 h1 h2 h3
    have hI9 : In G w0 (PlaceMap pb (mput T.ps s (b.k, 0)) :: PtrMap tb ((T.ks ++ [b.k]).map fun k => (k, updR T.pt b.k q k)) :: Box bb 49 (ints b.list) :: Box hb 46 (ints [s, g]) :: Box p 99 #[.pointer (some ⟨sp, 0, none⟩), .map (some tb), .map (some pb)] :: SlotsA sp ls :: (l ++ (T.ks ++ [b.k]).map (tblOf ⟨T.ks ++ [b.k], updR T.pt b.k q, updR T.rw b.k [⟨(s, g), b⟩], mput T.ps s (b.k, 0)⟩))) w8 := In.mapped (HI8.out.nth 5 (by simp)) h1 h2
    clear h1 h2 h3
    have HI9 : Hid (In G w0 (Box p 99 #[.pointer (some ⟨sp, 0, none⟩), .map (some tb), .map (some pb)] :: SlotsA sp ls :: PtrMap tb ((T.ks ++ [b.k]).map fun k => (k, updR T.pt b.k q k)) :: PlaceMap pb (mput T.ps s (b.k, 0)) :: (l ++ (T.ks ++ [b.k]).map (tblOf ⟨T.ks ++ [b.k], updR T.pt b.k q, updR T.rw b.k [⟨(s, g), b⟩], mput T.ps s (b.k, 0)⟩))) w8) :=
      hI9.swap.third.drop.third.drop.swap.to4.to3
    clear hI9 HP HI8
    go_wp2_with fail
    go_end0
    exact ⟨rfl, In.shutWorldS HREP.out HI9.out⟩

end Go.Proofs.YtpgcghnlepnoiaaGreatDoor

/-
  The contract of world.lift.
-/
namespace Go.Proofs.YtpgcghnlepnoiaaGreatDoor
open Go.RowKit

theorem cell_row0 {w : World} {b o n : Nat} {x : Int} {xs : List Int} (h : row? w b o n = some (ints (x :: xs))) : w.cell? ⟨b, o, none⟩ = some (.int .i64 x) := by
  unfold row? at h
  split at h
  · rename_i cs t fr hg
    split at h
    · rename_i hle
      injection h with h
      have h2 : (cs.extract o (o + n))[0]? = some (.int .i64 x) := by rw [h]; rfl
      rw [cell_of_row w b o cs t fr hg]
      rw [Array.getElem?_extract] at h2
      split at h2
      · simpa using h2
      · cases h2
    · cases h
  · cases h
theorem look_tbl {w w' : World} {tb : Nat} {T : WT} (h : MapAt (Value.int .i64) ptrV goodI w tb (T.ks.map fun K => (K, T.pt K))) {K : Int} (hK : K ∈ T.ks) (hk : 0 ≤ K ∧ K ≤ 255) (hb : Below w.heap.size w w') :
    (Instr.lookup 96 (.map (some tb)) (.int .i64 K) false).run Tryz.prog w' = .ok (.pointer (some ⟨T.pt K, 0, none⟩)) w' := by
  rw [(h.after hb).look keyI Tryz.underlying96 (zero_tbl w') (x := K) (wf_small (by omega)) false, pt_get, if_pos hK]; rfl
theorem look_place {w w' : World} {pb : Nat} {ps : List (Int × (Int × Int))} (h : MapAt (Value.int .i64) pV goodI w pb ps) {s K i : Int} (hs : 0 ≤ s ∧ s < 60) (hm : mget ps s = some (K, i)) (hb : Below w.heap.size w w') :
    (Instr.lookup 97 (.map (some pb)) (.int .i64 s) false).run Tryz.prog w' = .ok (.agg #[.int .i64 K, .int .i64 i]) w' := by
  rw [(h.after hb).look keyI Tryz.underlying97 (zero_place w') (x := s) (wf_small (by omega)) false, hm]; rfl
theorem tbl_kind {G : Nat → Prop} {w0 w : World} {l : List Assn} {p : Nat} {K : Int} {rows : List RowM} (h : In G w0 (Tbl p K rows :: l) w) : (0 ≤ K ∧ K ≤ 255) ∧ ∀ r ∈ rows, r.b.k = K := by
  obtain ⟨hT, hK, _⟩ := h.openTbl
  exact ⟨hK, fun r hr => (hT r hr).1⟩

set_option maxHeartbeats 8000000 in
set_option maxRecDepth 100000 in
theorem lift_in {G : Nat → Prop} {w0 w : World} {l : List Assn} {p : Nat} {ls : List (Int × Bool)} {f : BF} (h : In G w0 (WorldA p ls f :: l) w) (s g : Int) (b : Beast) (hf : f s = some (g, b)) :
    Calls Tryz.prog 98 #[.pointer (some ⟨p, 0, none⟩), .agg #[.int .i64 s, .int .i64 g]] w fun e w' => e = .returned (.agg (ints b.list)) ∧ In G w0 (WorldA p ls (updB f s none) :: l) w' := by
  obtain ⟨sp, tb, pb, T, hT, hI⟩ := h.openWorld
  obtain ⟨hb1, hb2, hb3⟩ := hT.ok s g b hf
  obtain ⟨K, hK, i, hi⟩ := hT.all s g b hf
  have hpl : mget T.ps s = some (K, (i : Int)) := (hT.at_ K hK i _ hi).2
  have hil := (List.getElem?_eq_some_iff.1 hi).1
  have hKk := (tbl_kind (In.pickT (X := Box p 99 #[.pointer (some ⟨sp, 0, none⟩), .map (some tb), .map (some pb)] :: SlotsA sp ls :: PtrMap tb (T.ks.map fun K => (K, T.pt K)) :: PlaceMap pb T.ps :: l) hI hK)).1
  have HT := Lib.hid hT
  have HREP := Lib.hid (hT.lift_rep hK hi)
  have HK := Lib.hid hK
  have HKK := Lib.hid hKk
  have HPL := Lib.hid hpl
  have HI0 := Lib.hid hI
  have HS := Lib.hid hb3
  have hl60 := hT.rows_len hK
  have hbl : b.list.length = 9 := by unfold Beast.list; rw [List.length_cons, hb2]
  have HRM : Hid (removeR (T.rw K) (i : Int) = (cutAt zeroRow (T.rw K) i, ⟨(s, g), b⟩, 0)) := by
    unfold Hid removeR isRowB
    have h1 : decide (0 ≤ (i : Int)) = true := decide_eq_true (by omega)
    have h2 : decide ((i : Int) < ((T.rw K).length : Nat)) = true := decide_eq_true (by omega)
    rw [h1, h2, Int.toNat_natCast, List.getD_eq_getElem?_getD, hi]; rfl
  have HCL := Lib.hid (cutAt_len zeroRow (T.rw K) i)
  have HIL := Lib.hid hil
  clear h hT hI hf hb1 hb2 hb3 hK hi hpl hil hKk
  go_enter Tryz.func98, Tryz.ntmps98
  go_upto_region 1 with (fail)
  refine wp_abs (In G w0 (Box (w.heap.size + 1) 49 (ints [0, 0, 0, 0, 0, 0, 0, 0, 0]) :: Box w.heap.size 46 (ints [s, g]) :: Box p 99 #[.pointer (some ⟨sp, 0, none⟩), .map (some tb), .map (some pb)] :: SlotsA sp ls :: PtrMap tb (T.ks.map fun K => (K, T.pt K)) :: PlaceMap pb T.ps :: (l ++ T.ks.map (tblOf T)))) (by
    have := (HI0.out.alloc 46 (ints [s, g])).alloc 49 (ints [0, 0, 0, 0, 0, 0, 0, 0, 0])
    rw [World.size_alloc] at this
    exact this) ?_
  generalize w.heap.size + 1 = rb
  generalize w.heap.size = hb
  intro w1 hI1
  have hba := (Below.refl w1.heap.size w1).alloc (Nat.le_refl _) (.cells #[.int .i64 0, .int .i64 0] 172)
  have hmap := (hI1.nth 5 (by simp)).mapAt
  have k0 : w1.cell? ⟨p, 2, none⟩ = some (.map (some pb)) := hI1.third.blk.cell 2
  have k1 : w1.cell? ⟨hb, 0, none⟩ = some (.int .i64 s) := hI1.swap.blk.cell 0
  have k2 : (w1.alloc (.cells #[.int .i64 0, .int .i64 0] 172)).cell? ⟨p, 2, none⟩ = some (.map (some pb)) := (hI1.third.blk.after hba).cell 2
  have k3 : (w1.alloc (.cells #[.int .i64 0, .int .i64 0] 172)).cell? ⟨hb, 0, none⟩ = some (.int .i64 s) := (hI1.swap.blk.after hba).cell 0
  have hl1 := look_place hmap HS.out HPL.out (Below.refl _ _).drew
  have hl2 := look_place hmap HS.out HPL.out (((Below.refl _ w1).alloc (Nat.le_refl _) (.cells #[.int .i64 0, .int .i64 0] 172)).drew)
  have HMOVE : Hid (∀ w2, w2 = (putRow (w1.alloc (.cells (ints [0, 0]) 172)) w1.heap.size 0 [K, (i : Int)]).drew → In G w0 (Box w1.heap.size 172 (ints [K, (i : Int)]) :: Box rb 49 (ints [0, 0, 0, 0, 0, 0, 0, 0, 0]) :: Box hb 46 (ints [s, g]) :: Box p 99 #[.pointer (some ⟨sp, 0, none⟩), .map (some tb), .map (some pb)] :: SlotsA sp ls :: PtrMap tb (T.ks.map fun K => (K, T.pt K)) :: PlaceMap pb T.ps :: (l ++ T.ks.map (tblOf T))) w2) := fun w2 e => by
    rw [e]
    exact (hI1.struct 172 [0, 0] [K, (i : Int)] rfl).drew
  clear hI1 hmap hba HI0
  go_region
  all_goals
    go_upto_region 2 with (fail)
    refine wp_abs (In G w0 (Box w1.heap.size 172 (ints [K, (i : Int)]) :: Box rb 49 (ints [0, 0, 0, 0, 0, 0, 0, 0, 0]) :: Box hb 46 (ints [s, g]) :: Box p 99 #[.pointer (some ⟨sp, 0, none⟩), .map (some tb), .map (some pb)] :: SlotsA sp ls :: PtrMap tb (T.ks.map fun K => (K, T.pt K)) :: PlaceMap pb T.ps :: (l ++ T.ks.map (tblOf T)))) (HMOVE.out _ rfl) ?_
    clear k0 k1 k2 k3 hl1 hl2 HMOVE
    generalize w1.heap.size = lb
    intro w2 hI2
    have c1 : ∀ n : After w2, n.w.cell? ⟨p, 1, none⟩ = some (.map (some tb)) := fun n => (hI2.fourth.blk.after n.below).cell 1
    have c2 : ∀ n : After w2, n.w.cell? ⟨lb, 0, none⟩ = some (.int .i64 K) := fun n => (hI2.blk.after n.below).cell 0
    have hmap := (hI2.nth 5 (by simp)).mapAt
    have hlook : ∀ n : After w2, (Instr.lookup 96 (.map (some tb)) (.int .i64 K) false).run Tryz.prog n.w = .ok (.pointer (some ⟨T.pt K, 0, none⟩)) n.w := fun n => look_tbl hmap HK.out HKK.out n.below
    have HI2 := Lib.hid hI2
    clear hI2 hmap
    refine wp_region_after (by kernel_rfl) (by kernel_rfl) ?_
    repeat (go_big_quiet_step (fail))
    refine wpQuiet_nil ?_
    rintro _ ⟨n, rfl⟩
    have hI3 := HI2.out.below n.below
    generalize n.w = w3 at *
    have q1 : w3.cell? ⟨lb, 1, none⟩ = some (.int .i64 (i : Int)) := hI3.blk.cell 1
    have HI3 : Hid (In G w0 (Tbl (T.pt K) K (T.rw K) :: (Box p 99 #[.pointer (some ⟨sp, 0, none⟩), .map (some tb), .map (some pb)] :: SlotsA sp ls :: PtrMap tb (T.ks.map fun K => (K, T.pt K)) :: PlaceMap pb T.ps :: Box lb 172 (ints [K, (i : Int)]) :: Box rb 49 (ints [0, 0, 0, 0, 0, 0, 0, 0, 0]) :: Box hb 46 (ints [s, g]) :: l ++ (T.ks.erase K).map (tblOf T))) w3) :=
      In.pickT (X := Box p 99 #[.pointer (some ⟨sp, 0, none⟩), .map (some tb), .map (some pb)] :: SlotsA sp ls :: PtrMap tb (T.ks.map fun K => (K, T.pt K)) :: PlaceMap pb T.ps :: Box lb 172 (ints [K, (i : Int)]) :: Box rb 49 (ints [0, 0, 0, 0, 0, 0, 0, 0, 0]) :: Box hb 46 (ints [s, g]) :: l) (hI3.reorder 7 [3, 4, 5, 6, 0, 1, 2] rfl (by simp)) HK.out
    clear hI3 c1 c2 hlook HI2
    have HR := Lib.hid (tremove_in HI3.out (i : Int) (by omega))
    rw [HRM.out, show RowM.list ⟨(s, g), b⟩ = s :: g :: b.list from rfl] at HR
    have hrl : (s :: g :: b.list).length = 11 := by simp only [List.length_cons]; omega
    go_wp2_with fail
    refine HR.out.mono ?_
    rintro e w4 ⟨rfl, hI4⟩
    have HI4 := Lib.hid hI4
    clear hI4 HR HI3 q1
    go_upto_region 4 with (fail)
    refine wp_abs (In G w0 (Box w4.heap.size 51 (ints (s :: g :: b.list)) :: Tbl (T.pt K) K (cutAt zeroRow (T.rw K) i) :: Box p 99 #[.pointer (some ⟨sp, 0, none⟩), .map (some tb), .map (some pb)] :: SlotsA sp ls :: PtrMap tb (T.ks.map fun K => (K, T.pt K)) :: PlaceMap pb T.ps :: Box lb 172 (ints [K, (i : Int)]) :: Box rb 49 (ints [0, 0, 0, 0, 0, 0, 0, 0, 0]) :: Box hb 46 (ints [s, g]) :: l ++ (T.ks.erase K).map (tblOf T))) (HI4.out.struct 51 [0, 0, 0, 0, 0, 0, 0, 0, 0, 0, 0] _ hrl) ?_
    generalize w4.heap.size = rwb
    intro w5 hI5
    have hc60 : (cutAt zeroRow (T.rw K) i).length ≤ 60 := by have := HCL.out; omega
    have HH := Lib.hid (thandles_in hI5.swap (by omega))
    have HI5 := Lib.hid hI5.swap
    clear hI5 HI4
    go_wp2_with fail
    refine HH.out.mono ?_
    rintro e w6 ⟨hv, rfl, ho, hb6, hI6⟩
    obtain ⟨A6, c6, rfl, hc1, hc2, hA6⟩ := own_form ho
    have hrow6 : ∀ (hlt : i < (cutAt zeroRow (T.rw K) i).length), ∃ g6, A6 = some ⟨g6, 0, none⟩ ∧ w6.cell? ⟨g6, i * 2, none⟩ = some (.int .i64 ((cutAt zeroRow (T.rw K) i)[i]).h.1) := by
      intro hlt
      obtain ⟨g6, rfl⟩ := hA6 (by omega)
      refine ⟨g6, rfl, ?_⟩
      have hr := own_row ho (k := i) (by omega)
      rw [flat_at (f := fun r : RowM => hC r.h) (size := 2) (fun _ => rfl) _ i hlt] at hr
      exact cell_row0 (xs := [((cutAt zeroRow (T.rw K) i)[i]).h.2]) hr
    have HI6 := Lib.hid hI6
    have q1 : w6.cell? ⟨lb, 1, none⟩ = some (.int .i64 (i : Int)) := (hI6.nth 6 (by simp)).blk.cell 1
    have q2 : w6.cell? ⟨p, 2, none⟩ = some (.map (some pb)) := hI6.third.blk.cell 2
    have q3 : row? w6 lb 0 2 = some (ints [K, (i : Int)]) := (hI6.nth 6 (by simp)).blk.row_all rfl
    have hc60' : (((cutAt zeroRow (T.rw K) i).length : Nat) : Int) ≤ 60 := by omega
    clear ho hb6 hI6 HH HI5 hc1 hc2 hA6
    have HMV : Hid (movePs T.ps (cutAt zeroRow (T.rw K) i) K i = if hlt : i < (cutAt zeroRow (T.rw K) i).length then mput T.ps ((cutAt zeroRow (T.rw K) i)[i]).h.1 (K, (i : Int)) else T.ps) := by
      unfold Hid movePs
      by_cases hlt : i < (cutAt zeroRow (T.rw K) i).length
      · rw [if_pos hlt, dif_pos hlt, List.getD_eq_getElem?_getD, List.getElem?_eq_getElem hlt]; rfl
      · rw [if_neg hlt, dif_neg hlt]
    by_cases hlt : i < (cutAt zeroRow (T.rw K) i).length
    focus
      obtain ⟨g6, rfl, q4⟩ := hrow6 hlt
      rw [dif_pos hlt] at HMV
      have hil2 : (i : Int) < (cutAt zeroRow (T.rw K) i).length := by omega
      have HS2 : Hid (0 ≤ ((cutAt zeroRow (T.rw K) i)[i]).h.1 ∧ ((cutAt zeroRow (T.rw K) i)[i]).h.1 < 60) := by
        have h1 := cut_get zeroRow (T.rw K) i i HIL.out (by have := HCL.out; omega)
        rw [if_pos rfl, List.getElem?_eq_getElem hlt] at h1
        obtain ⟨h2, _⟩ := HT.out.at_ K HK.out ((T.rw K).length - 1) _ h1.symm
        exact (HT.out.ok _ _ _ h2).2.2
      generalize ((cutAt zeroRow (T.rw K) i)[i]).h.1 = s2 at *
      go_upto_region 6 with (fail)
      go_still_tail 11, (by kernel_rfl)
      change wpList _ _ _ _ _ w6.drew
      have HI7 := Lib.hid HI6.out.drew
      clear HI6 q1 q2 q3 q4 hil2 hrow6
      generalize w6.drew = w7 at *
      have HP := Lib.hid (HI7.out.nth 5 (by simp)).mapAt
      go_wp2_with (at_mapUpdate; go_loud (refine wpList_store keyI rfl _ _ _ 97 172 rfl Tryz.underlying97 pb _ rfl HP.out s2 rfl (wf_small (by have := HS2.out; omega)) (K, (i : Int)) rfl ?_))
      intro w8 h1 h2 h3
      have hI8 : In G w0 (PlaceMap pb (mput T.ps s2 (K, (i : Int))) :: Tbl (T.pt K) K (cutAt zeroRow (T.rw K) i) :: Box rwb 51 (ints (s :: g :: b.list)) :: Box p 99 #[.pointer (some ⟨sp, 0, none⟩), .map (some tb), .map (some pb)] :: SlotsA sp ls :: PtrMap tb (T.ks.map fun K => (K, T.pt K)) :: Box lb 172 (ints [K, (i : Int)]) :: Box rb 49 (ints [0, 0, 0, 0, 0, 0, 0, 0, 0]) :: Box hb 46 (ints [s, g]) :: l ++ (T.ks.erase K).map (tblOf T)) w8 := In.mapped (HI7.out.nth 5 (by simp)) h1 h2
      rw [← HMV.out] at hI8
      have HI9 : Hid (In G w0 (Tbl (T.pt K) K (cutAt zeroRow (T.rw K) i) :: Box p 99 #[.pointer (some ⟨sp, 0, none⟩), .map (some tb), .map (some pb)] :: SlotsA sp ls :: PtrMap tb (T.ks.map fun K => (K, T.pt K)) :: PlaceMap pb (movePs T.ps (cutAt zeroRow (T.rw K) i) K i) :: Box rwb 51 (ints (s :: g :: b.list)) :: Box lb 172 (ints [K, (i : Int)]) :: Box rb 49 (ints [0, 0, 0, 0, 0, 0, 0, 0, 0]) :: Box hb 46 (ints [s, g]) :: l ++ (T.ks.erase K).map (tblOf T)) w8) := hI8.reorder 6 [1, 3, 4, 5, 0, 2] rfl (by simp)
      clear hI8 h1 h2 h3 HP HI7 HMV HS2 hlt
      go_upto_region 7 with (fail)
      generalize w8 = w9 at *
    rotate_left
    focus
      rw [dif_neg hlt] at HMV
      have hil2 : (((cutAt zeroRow (T.rw K) i).length : Nat) : Int) ≤ i := by omega
      have hI8 : In G w0 (Tbl (T.pt K) K (cutAt zeroRow (T.rw K) i) :: Box rwb 51 (ints (s :: g :: b.list)) :: Box p 99 #[.pointer (some ⟨sp, 0, none⟩), .map (some tb), .map (some pb)] :: SlotsA sp ls :: PtrMap tb (T.ks.map fun K => (K, T.pt K)) :: PlaceMap pb T.ps :: Box lb 172 (ints [K, (i : Int)]) :: Box rb 49 (ints [0, 0, 0, 0, 0, 0, 0, 0, 0]) :: Box hb 46 (ints [s, g]) :: l ++ (T.ks.erase K).map (tblOf T)) w6 := HI6.out
      have HI9 : Hid (In G w0 (Tbl (T.pt K) K (cutAt zeroRow (T.rw K) i) :: Box p 99 #[.pointer (some ⟨sp, 0, none⟩), .map (some tb), .map (some pb)] :: SlotsA sp ls :: PtrMap tb (T.ks.map fun K => (K, T.pt K)) :: PlaceMap pb (movePs T.ps (cutAt zeroRow (T.rw K) i) K i) :: Box rwb 51 (ints (s :: g :: b.list)) :: Box lb 172 (ints [K, (i : Int)]) :: Box rb 49 (ints [0, 0, 0, 0, 0, 0, 0, 0, 0]) :: Box hb 46 (ints [s, g]) :: l ++ (T.ks.erase K).map (tblOf T)) w6) := by
        rw [HMV.out]
        exact hI8.reorder 6 [0, 2, 3, 4, 5, 1] rfl (by simp)
      go_upto_region 7 with (fail)
      clear q1 q2 q3 hrow6 hI8 HMV HI6
      generalize w6 = w9 at *
    all_goals
      have HH := Lib.hid (thandles_in HI9.out (by omega))
      go_wp2_with fail
      refine HH.out.mono ?_
      rintro e w10 ⟨hv, rfl, ho, hb10, hI10⟩
      obtain ⟨A10, c10, rfl, _, _, _⟩ := own_form ho
      have HI10 := Lib.hid hI10
      clear ho hb10 hI10 HH HI9
      have HFIN : Hid (∀ w11, In G w0 (Box p 99 #[.pointer (some ⟨sp, 0, none⟩), .map (some tb), .map (some pb)] :: SlotsA sp ls :: PtrMap tb ((if (cutAt zeroRow (T.rw K) i).length = 0 then T.ks.filter (fun k => !decide (k = K)) else T.ks).map fun K => (K, T.pt K)) :: PlaceMap pb (movePs T.ps (cutAt zeroRow (T.rw K) i) K i) :: Box rwb 51 (ints (s :: g :: b.list)) :: Box lb 172 (ints [K, (i : Int)]) :: Box rb 49 (ints [0, 0, 0, 0, 0, 0, 0, 0, 0]) :: Box hb 46 (ints [s, g]) :: l ++ (if (cutAt zeroRow (T.rw K) i).length = 0 then T.ks.filter (fun k => !decide (k = K)) else T.ks).map (tblOf ⟨(if (cutAt zeroRow (T.rw K) i).length = 0 then T.ks.filter (fun k => !decide (k = K)) else T.ks), T.pt, updR T.rw K (cutAt zeroRow (T.rw K) i), mdel (movePs T.ps (cutAt zeroRow (T.rw K) i) K i) s⟩)) w11 →
          In G w0 (Box p 99 #[.pointer (some ⟨sp, 0, none⟩), .map (some tb), .map (some pb)] :: SlotsA sp ls :: PtrMap tb ((if (cutAt zeroRow (T.rw K) i).length = 0 then T.ks.filter (fun k => !decide (k = K)) else T.ks).map fun K => (K, T.pt K)) :: PlaceMap pb (movePs T.ps (cutAt zeroRow (T.rw K) i) K i) :: Box rwb 51 (ints (s :: g :: b.list)) :: Box lb 172 (ints [K, (i : Int)]) :: Box rb 49 (ints [0, 0, 0, 0, 0, 0, 0, 0, 0]) :: Box hb 46 (ints [s, g]) :: (l ++ (if (cutAt zeroRow (T.rw K) i).length = 0 then T.ks.filter (fun k => !decide (k = K)) else T.ks).map (tblOf ⟨(if (cutAt zeroRow (T.rw K) i).length = 0 then T.ks.filter (fun k => !decide (k = K)) else T.ks), T.pt, updR T.rw K (cutAt zeroRow (T.rw K) i), mdel (movePs T.ps (cutAt zeroRow (T.rw K) i) K i) s⟩))) w11) := fun _ h => h
      by_cases h0 : (cutAt zeroRow (T.rw K) i).length = 0
      focus
        have hI11 : In G w0 (Box p 99 #[.pointer (some ⟨sp, 0, none⟩), .map (some tb), .map (some pb)] :: SlotsA sp ls :: PtrMap tb (T.ks.map fun K => (K, T.pt K)) :: PlaceMap pb (movePs T.ps (cutAt zeroRow (T.rw K) i) K i) :: Box rwb 51 (ints (s :: g :: b.list)) :: Box lb 172 (ints [K, (i : Int)]) :: Box rb 49 (ints [0, 0, 0, 0, 0, 0, 0, 0, 0]) :: Box hb 46 (ints [s, g]) :: (l ++ (T.ks.filter fun k => !decide (k = K)).map (tblOf ⟨(if (cutAt zeroRow (T.rw K) i).length = 0 then T.ks.filter (fun k => !decide (k = K)) else T.ks), T.pt, updR T.rw K (cutAt zeroRow (T.rw K) i), mdel (movePs T.ps (cutAt zeroRow (T.rw K) i) K i) s⟩))) w10 :=
          In.dropT2 (X := Box p 99 #[.pointer (some ⟨sp, 0, none⟩), .map (some tb), .map (some pb)] :: SlotsA sp ls :: PtrMap tb (T.ks.map fun K => (K, T.pt K)) :: PlaceMap pb (movePs T.ps (cutAt zeroRow (T.rw K) i) K i) :: Box rwb 51 (ints (s :: g :: b.list)) :: Box lb 172 (ints [K, (i : Int)]) :: Box rb 49 (ints [0, 0, 0, 0, 0, 0, 0, 0, 0]) :: Box hb 46 (ints [s, g]) :: l) HT.out.nd HI10.out
        have h00 : (((cutAt zeroRow (T.rw K) i).length : Nat) : Int) = 0 := by omega
        have q1 : w10.cell? ⟨p, 1, none⟩ = some (.map (some tb)) := hI11.blk.cell 1
        have q2 : w10.cell? ⟨lb, 0, none⟩ = some (.int .i64 K) := hI11.fifth.drop.fifth.blk.cell 0
        have HI11 := Lib.hid hI11
        clear hI11 HI10
        go_upto_region 8 with (fail)
        go_still_tail 6, (by kernel_rfl)
        change wpList _ _ _ _ _ w10.drew
        have HI12 := Lib.hid HI11.out.drew
        clear HI11 q1 q2 h00
        generalize w10.drew = w11 at *
        have HP := Lib.hid (HI12.out.third).mapAt
        go_wp2_with (at_delete; go_loud (refine wpList_drop keyI rfl _ _ 96 136 rfl Tryz.underlying96 tb _ rfl HP.out K rfl (wf_small (by have := HKK.out; omega)) ?_))
        intro w12 h1 h2 h3
        have hI13 : In G w0 (PtrMap tb (mdel (T.ks.map fun K => (K, T.pt K)) K) :: Box p 99 #[.pointer (some ⟨sp, 0, none⟩), .map (some tb), .map (some pb)] :: SlotsA sp ls :: PlaceMap pb (movePs T.ps (cutAt zeroRow (T.rw K) i) K i) :: Box rwb 51 (ints (s :: g :: b.list)) :: Box lb 172 (ints [K, (i : Int)]) :: Box rb 49 (ints [0, 0, 0, 0, 0, 0, 0, 0, 0]) :: Box hb 46 (ints [s, g]) :: (l ++ (T.ks.filter fun k => !decide (k = K)).map (tblOf ⟨(if (cutAt zeroRow (T.rw K) i).length = 0 then T.ks.filter (fun k => !decide (k = K)) else T.ks), T.pt, updR T.rw K (cutAt zeroRow (T.rw K) i), mdel (movePs T.ps (cutAt zeroRow (T.rw K) i) K i) s⟩))) w12 := In.mapped HI12.out.third h1 h2
        have hmd : mdel (T.ks.map fun K => (K, T.pt K)) K = (T.ks.filter fun k => !decide (k = K)).map fun K => (K, T.pt K) := by unfold mdel; rw [List.filter_map]; rfl
        have HI14 : Hid (In G w0 (Box p 99 #[.pointer (some ⟨sp, 0, none⟩), .map (some tb), .map (some pb)] :: SlotsA sp ls :: PtrMap tb ((if (cutAt zeroRow (T.rw K) i).length = 0 then T.ks.filter (fun k => !decide (k = K)) else T.ks).map fun K => (K, T.pt K)) :: PlaceMap pb (movePs T.ps (cutAt zeroRow (T.rw K) i) K i) :: Box rwb 51 (ints (s :: g :: b.list)) :: Box lb 172 (ints [K, (i : Int)]) :: Box rb 49 (ints [0, 0, 0, 0, 0, 0, 0, 0, 0]) :: Box hb 46 (ints [s, g]) :: (l ++ (if (cutAt zeroRow (T.rw K) i).length = 0 then T.ks.filter (fun k => !decide (k = K)) else T.ks).map (tblOf ⟨(if (cutAt zeroRow (T.rw K) i).length = 0 then T.ks.filter (fun k => !decide (k = K)) else T.ks), T.pt, updR T.rw K (cutAt zeroRow (T.rw K) i), mdel (movePs T.ps (cutAt zeroRow (T.rw K) i) K i) s⟩))) w12) := by
          rw [if_pos h0]
          rw [if_pos h0, hmd] at hI13
          exact hI13.to3
        clear hI13 h1 h2 h3 HP HI12 hmd h0
        go_upto_region 9 with (fail)
        generalize w12 = w13 at *
      rotate_left
      focus
        have hI11 : In G w0 (Box p 99 #[.pointer (some ⟨sp, 0, none⟩), .map (some tb), .map (some pb)] :: SlotsA sp ls :: PtrMap tb (T.ks.map fun K => (K, T.pt K)) :: PlaceMap pb (movePs T.ps (cutAt zeroRow (T.rw K) i) K i) :: Box rwb 51 (ints (s :: g :: b.list)) :: Box lb 172 (ints [K, (i : Int)]) :: Box rb 49 (ints [0, 0, 0, 0, 0, 0, 0, 0, 0]) :: Box hb 46 (ints [s, g]) :: (l ++ T.ks.map (tblOf ⟨(if (cutAt zeroRow (T.rw K) i).length = 0 then T.ks.filter (fun k => !decide (k = K)) else T.ks), T.pt, updR T.rw K (cutAt zeroRow (T.rw K) i), mdel (movePs T.ps (cutAt zeroRow (T.rw K) i) K i) s⟩))) w10 :=
          In.backT (X := Box p 99 #[.pointer (some ⟨sp, 0, none⟩), .map (some tb), .map (some pb)] :: SlotsA sp ls :: PtrMap tb (T.ks.map fun K => (K, T.pt K)) :: PlaceMap pb (movePs T.ps (cutAt zeroRow (T.rw K) i) K i) :: Box rwb 51 (ints (s :: g :: b.list)) :: Box lb 172 (ints [K, (i : Int)]) :: Box rb 49 (ints [0, 0, 0, 0, 0, 0, 0, 0, 0]) :: Box hb 46 (ints [s, g]) :: l) HT.out.nd HK.out HI10.out
        have h00 : ((((cutAt zeroRow (T.rw K) i).length : Nat) : Int) == 0) = false := beq_eq_false_iff_ne.2 (by omega)
        have HI14 : Hid (In G w0 (Box p 99 #[.pointer (some ⟨sp, 0, none⟩), .map (some tb), .map (some pb)] :: SlotsA sp ls :: PtrMap tb ((if (cutAt zeroRow (T.rw K) i).length = 0 then T.ks.filter (fun k => !decide (k = K)) else T.ks).map fun K => (K, T.pt K)) :: PlaceMap pb (movePs T.ps (cutAt zeroRow (T.rw K) i) K i) :: Box rwb 51 (ints (s :: g :: b.list)) :: Box lb 172 (ints [K, (i : Int)]) :: Box rb 49 (ints [0, 0, 0, 0, 0, 0, 0, 0, 0]) :: Box hb 46 (ints [s, g]) :: (l ++ (if (cutAt zeroRow (T.rw K) i).length = 0 then T.ks.filter (fun k => !decide (k = K)) else T.ks).map (tblOf ⟨(if (cutAt zeroRow (T.rw K) i).length = 0 then T.ks.filter (fun k => !decide (k = K)) else T.ks), T.pt, updR T.rw K (cutAt zeroRow (T.rw K) i), mdel (movePs T.ps (cutAt zeroRow (T.rw K) i) K i) s⟩))) w10) := by
          rw [if_neg h0]
          rw [if_neg h0] at hI11
          exact hI11
        clear hI11 HI10
        go_upto_region 9 with (fail)
        clear h00 h0
        generalize w10 = w13 at *
      all_goals
        have q1 : w13.cell? ⟨p, 2, none⟩ = some (.map (some pb)) := HI14.out.blk.cell 2
        have q2 : w13.cell? ⟨hb, 0, none⟩ = some (.int .i64 s) := (HI14.out.nth 7 (by simp)).blk.cell 0
        go_still_tail 6, (by kernel_rfl)
        change wpList _ _ _ _ _ w13.drew
        have HI15 := Lib.hid HI14.out.drew
        clear HI14 q1 q2
        generalize w13.drew = w14 at *
        have HP := Lib.hid (HI15.out.fourth).mapAt
        go_wp2_with (at_delete; go_loud (refine wpList_drop keyI rfl _ _ 97 172 rfl Tryz.underlying97 pb _ rfl HP.out s rfl (wf_small (by have := HS.out; omega)) ?_))
        intro w15 h1 h2 h3
        have hI16 : In G w0 (PlaceMap pb (mdel (movePs T.ps (cutAt zeroRow (T.rw K) i) K i) s) :: Box p 99 #[.pointer (some ⟨sp, 0, none⟩), .map (some tb), .map (some pb)] :: SlotsA sp ls :: PtrMap tb ((if (cutAt zeroRow (T.rw K) i).length = 0 then T.ks.filter (fun k => !decide (k = K)) else T.ks).map fun K => (K, T.pt K)) :: Box rwb 51 (ints (s :: g :: b.list)) :: Box lb 172 (ints [K, (i : Int)]) :: Box rb 49 (ints [0, 0, 0, 0, 0, 0, 0, 0, 0]) :: Box hb 46 (ints [s, g]) :: (l ++ (if (cutAt zeroRow (T.rw K) i).length = 0 then T.ks.filter (fun k => !decide (k = K)) else T.ks).map (tblOf ⟨(if (cutAt zeroRow (T.rw K) i).length = 0 then T.ks.filter (fun k => !decide (k = K)) else T.ks), T.pt, updR T.rw K (cutAt zeroRow (T.rw K) i), mdel (movePs T.ps (cutAt zeroRow (T.rw K) i) K i) s⟩))) w15 := In.mapped HI15.out.fourth h1 h2
        have hI17 : In G w0 (Box rwb 51 (ints (s :: g :: b.list)) :: Box lb 172 (ints [K, (i : Int)]) :: Box rb 49 (ints [0, 0, 0, 0, 0, 0, 0, 0, 0]) :: Box hb 46 (ints [s, g]) :: Box p 99 #[.pointer (some ⟨sp, 0, none⟩), .map (some tb), .map (some pb)] :: SlotsA sp ls :: PtrMap tb ((if (cutAt zeroRow (T.rw K) i).length = 0 then T.ks.filter (fun k => !decide (k = K)) else T.ks).map fun K => (K, T.pt K)) :: PlaceMap pb (mdel (movePs T.ps (cutAt zeroRow (T.rw K) i) K i) s) :: (l ++ (if (cutAt zeroRow (T.rw K) i).length = 0 then T.ks.filter (fun k => !decide (k = K)) else T.ks).map (tblOf ⟨(if (cutAt zeroRow (T.rw K) i).length = 0 then T.ks.filter (fun k => !decide (k = K)) else T.ks), T.pt, updR T.rw K (cutAt zeroRow (T.rw K) i), mdel (movePs T.ps (cutAt zeroRow (T.rw K) i) K i) s⟩))) w15 := hI16.reorder 8 [4, 5, 6, 7, 1, 2, 3, 0] rfl (by simp)
        have q3 : row? w15 rwb 2 9 = some (ints b.list) := by
          rw [hI17.blk.row_ints 2 9 (by rw [hrl]; omega)]
          simp only [List.drop_succ_cons, List.drop_zero]
          rw [List.take_of_length_le (by omega)]
        have q4 : fits w15 rb 0 9 = true := hI17.third.blk.fits 0 9 (by rw [ints_size]; simp)
        have HI18 := Lib.hid (hI17.third.put_all b.list (by rw [hbl]; rfl))
        clear hI16 hI17 h1 h2 h3 HP HI15
        go_wp2_with fail
        refine bodyPost_row rfl rb 49 (ints b.list) _ rfl HI18.out.blk Tryz.underlying49 rfl (by rw [ints_size, hbl]; exact beast_info) rfl ?_
        exact ⟨rfl, In.shutWorld HREP.out HI18.out.drop.drop.drop.drop⟩

end Go.Proofs.YtpgcghnlepnoiaaGreatDoor

/-
  The contracts of world.New, Spawn, Kill and Get.
-/
namespace Go.Proofs.YtpgcghnlepnoiaaGreatDoor
open Go.RowKit

section
variable {G : Nat → Prop} {w0 w : World} {l : List Assn} {p : Nat} {ls : List (Int × Bool)} {f : BF}
theorem takeG_in (h : In G w0 (SlotsA p ls :: l) w) (hl : ls.length ≤ 60) :
    Calls Tryz.prog 91 #[.pointer (some ⟨p, 0, none⟩)] w fun e w' => e = .returned (.tuple #[.agg (ints [(takeR ls).2.1.1, (takeR ls).2.1.2]), .int .i64 (takeR ls).2.2]) ∧ In G w0 (SlotsA p (takeR ls).1 :: l) w' := by
  obtain ⟨F1, hA, _, hb⟩ := h.open_
  exact (take_any p ls F1 w hA hl).mono fun e w' ⟨h1, h2, h3⟩ => ⟨h1, hb (A' := SlotsA p (takeR ls).1) h2 h3⟩
theorem freeG_in (h : In G w0 (SlotsA p ls :: l) w) (hg : GensOk ls) (a b : Int) :
    Calls Tryz.prog 128 #[.pointer (some ⟨p, 0, none⟩), .agg #[.int .i64 a, .int .i64 b]] w fun e w' => e = .returned (.int .i64 (freeR ls a b).2) ∧ In G w0 (SlotsA p (freeR ls a b).1 :: l) w' := by
  obtain ⟨F1, hA, _, hb⟩ := h.open_
  exact (free_any p ls F1 a b w hA hg).mono fun e w' ⟨h1, h2, h3⟩ => ⟨h1, hb (A' := SlotsA p (freeR ls a b).1) (h2.mono fun _ _ hk => Or.inl hk) h3⟩
theorem newG_in (h : In G w0 l w) : Calls Tryz.prog 90 #[] w fun e w' => ∃ p, e = .returned (.pointer (some ⟨p, 0, none⟩)) ∧ In G w0 (SlotsA p [] :: l) w' :=
  (new_any w).mono fun e w' ⟨h1, h2, h3⟩ => ⟨_, h1, h.new (A := SlotsA w.heap.size []) h3 (h2.mono fun k _ hk => by rcases hk with hk | hk; exact hk.elim; exact hk.1)⟩

set_option maxRecDepth 100000 in
theorem wnew_in (h : In G w0 l w) : Calls Tryz.prog 54 #[] w fun e w' => ∃ p, e = .returned (.pointer (some ⟨p, 0, none⟩)) ∧ In G w0 (WorldA p [] (fun _ => none) :: l) w' := by
  have H := Lib.hid h
  clear h
  have hmm := @run_makeMap Tryz.prog
  go_enter Tryz.func54, Tryz.ntmps54
  go_wp2_with fail
  refine (newG_in H.out).mono ?_
  rintro e w1 ⟨sp, rfl, hI⟩
  have h1 := hI.newMap (Value.int .i64) ptrV goodI
  have h2 := h1.newMap (Value.int .i64) pV goodI
  rw [World.size_alloc] at h2
  have h3 := h2.alloc 99 #[.pointer (some ⟨sp, 0, none⟩), .map (some w1.heap.size), .map (some (w1.heap.size + 1))]
  simp only [World.size_alloc] at h3
  have H3 := Lib.hid h3
  clear hI h1 h2 h3
  go_wp2_with fail
  go_ret
  refine ⟨w1.heap.size + 1 + 1, rfl, In.shutWorld (sp := sp) (tb := w1.heap.size) (pb := w1.heap.size + 1) (T := ⟨[], fun _ => 0, fun _ => [], []⟩) TRep.nil ?_⟩
  have h4 := H3.out.reorder 4 [0, 3, 2, 1] rfl (by simp)
  simp only [List.map_nil, List.append_nil]
  exact h4

set_option maxHeartbeats 4000000 in
set_option maxRecDepth 100000 in
theorem spawn_in (h : In G w0 (WorldA p ls f :: l) w) (hk : WOk ls f) (b : Beast) (hv : b.v.length = 8) :
    Calls Tryz.prog 56 #[.pointer (some ⟨p, 0, none⟩), .agg (ints b.list)] w fun e w' => e = .returned (.tuple #[.agg (ints [(spawnW ls f b).2.1.1, (spawnW ls f b).2.1.2]), .int .i64 (spawnW ls f b).2.2]) ∧ In G w0 (WorldA p (spawnW ls f b).1.1 (spawnW ls f b).1.2 :: l) w' := by
  have HI0 := Lib.hid h
  have HK := Lib.hid hk
  have hbl : b.list.length = 9 := by unfold Beast.list; rw [List.length_cons, hv]
  have HV := Lib.hid hv
  clear h hk hv
  go_enter Tryz.func56, Tryz.ntmps56
  go_upto_region 1 with (fail)
  refine wp_abs (In G w0 (Box (w.heap.size + 1) 46 (ints [0, 0]) :: Box w.heap.size 49 (ints b.list) :: WorldA p ls f :: l)) (by
    have := (HI0.out.alloc 49 (ints b.list)).alloc 46 (ints [0, 0])
    rw [World.size_alloc] at this
    exact this) ?_
  generalize w.heap.size + 1 = rb
  generalize w.heap.size = bb
  intro w1 hI1
  have k1 : row? w1 bb 0 9 = some (ints b.list) := hI1.swap.blk.row_all hbl
  have HI1 := Lib.hid hI1
  clear hI1 HI0
  go_wp2_with fail
  refine (checkBeast_any b HV.out w1).mono ?_
  rintro e w2 ⟨rfl, hb2⟩
  have hI2 := HI1.out.below hb2
  have f1 : fits w2 rb 0 2 = true := hI2.blk.fits 0 2 (by rw [ints_size]; simp)
  have HI2 := Lib.hid hI2
  clear hI2 hb2 HI1 k1
  by_cases he : beastErr b = 0
  rotate_left
  · have HR : Hid (spawnW ls f b = ((ls, f), (0, 0), beastErr b)) := by unfold Hid spawnW; rw [if_pos he]
    have he' : (beastErr b != 0) = true := by simpa using he
    generalize beastErr b = E at *
    clear he
    have HI3 := Lib.hid (HI2.out.put_all [0, 0] rfl)
    clear HI2
    go_wp2_with fail
    refine bodyPost_row_tmp rfl rb 46 (ints [0, 0]) (.int .i64 E) _ rfl rfl HI3.out.blk Tryz.underlying46 rfl (by rw [ints_size]; exact handle_info) rfl ?_
    rw [HR.out]
    exact ⟨rfl, HI3.out.drop.drop⟩
  have HE := Lib.hid he
  rw [he]
  clear he f1
  obtain ⟨sp, tb, pb, T, hT, hI⟩ := HI2.out.third.openWorld
  have q1 : w2.cell? ⟨p, 0, none⟩ = some (.pointer (some ⟨sp, 0, none⟩)) := hI.blk.cell 0
  have HT := Lib.hid hT
  have HI3 := Lib.hid hI.swap
  clear hI hT HI2
  go_wp2_with fail
  refine (takeG_in HI3.out HK.out.so.1).mono ?_
  rintro e w3 ⟨rfl, hI4⟩
  have HI4 : Hid (In G w0 (WorldA p (takeR ls).1 f :: Box rb 46 (ints [0, 0]) :: Box bb 49 (ints b.list) :: l) w3) := In.shutWorld (l := Box rb 46 (ints [0, 0]) :: Box bb 49 (ints b.list) :: l) HT.out hI4.swap
  clear hI4 HI3 q1 HT
  rcases take_spec HK.out.so.1 with ht | ⟨k, gn, ls', ht, hk60, hdead, _⟩
  · have HR : Hid (spawnW ls f b = ((ls, f), (0, 0), 2)) := by
      unfold Hid spawnW
      rw [if_neg (fun h => h HE.out), ht, if_neg (by simp)]
    rw [ht] at HI4
    rw [ht]
    simp only at HI4 ⊢
    clear ht
    go_upto_region 5 with (fail)
    refine wp_abs (In G w0 (Box w3.heap.size 46 (ints [0, 0]) :: WorldA p ls f :: Box rb 46 (ints [0, 0]) :: Box bb 49 (ints b.list) :: l)) (HI4.out.struct 46 [0, 0] [0, 0] rfl) ?_
    generalize w3.heap.size = hb
    intro w4 hI5
    have q1 : row? w4 hb 0 2 = some (ints [0, 0]) := hI5.blk.row_all rfl
    have f1 : fits w4 rb 0 2 = true := hI5.third.blk.fits 0 2 (by rw [ints_size]; simp)
    have HI5 := Lib.hid (hI5.third.put_all [0, 0] rfl)
    clear hI5 HI4
    go_wp2_with fail
    refine bodyPost_row_tmp rfl rb 46 (ints [0, 0]) (.int .i64 2) _ rfl rfl HI5.out.blk Tryz.underlying46 rfl (by rw [ints_size]; exact handle_info) rfl ?_
    rw [HR.out]
    exact ⟨rfl, HI5.out.drop.drop.swap.drop⟩
  · have HR : Hid (spawnW ls f b = ((ls', updB f (k : Int) (some (gn, b))), ((k : Int), gn), 0)) := by
      unfold Hid spawnW
      rw [if_neg (fun h => h HE.out), ht, if_pos rfl]
    have HFN : Hid (f (k : Int) = none) := by
      cases hf : f (k : Int) with
      | none => rfl
      | some x =>
        have := (HK.out.lv (k : Int) x.1).2 ⟨x.2, hf⟩
        rw [hdead] at this; cases this
    have HK6 := Lib.hid hk60
    rw [ht] at HI4
    rw [ht]
    simp only at HI4 ⊢
    clear ht hdead hk60
    go_upto_region 5 with (fail)
    refine wp_abs (In G w0 (Box w3.heap.size 46 (ints [(k : Int), gn]) :: WorldA p ls' f :: Box rb 46 (ints [0, 0]) :: Box bb 49 (ints b.list) :: l)) (HI4.out.struct 46 [0, 0] [(k : Int), gn] rfl) ?_
    generalize w3.heap.size = hb
    intro w4 hI5
    have q1 : row? w4 hb 0 2 = some (ints [(k : Int), gn]) := hI5.blk.row_all rfl
    have q2 : row? w4 bb 0 9 = some (ints b.list) := hI5.fourth.blk.row_all hbl
    have HLAY := Lib.hid (lay_in hI5.swap (k : Int) gn b HFN.out ⟨HE.out, HV.out, by omega, by have := HK6.out; omega⟩)
    clear hI5 HI4
    go_wp2_with fail
    refine HLAY.out.mono ?_
    rintro e w5 ⟨rfl, hI6⟩
    have q1 : row? w5 hb 0 2 = some (ints [(k : Int), gn]) := hI6.swap.blk.row_all rfl
    have f1 : fits w5 rb 0 2 = true := hI6.third.blk.fits 0 2 (by rw [ints_size]; simp)
    have HI6 := Lib.hid (hI6.third.put_all [(k : Int), gn] rfl)
    clear hI6 HLAY q2
    go_wp2_with fail
    refine bodyPost_row_tmp rfl rb 46 (ints [(k : Int), gn]) (.int .i64 0) _ rfl rfl HI6.out.blk Tryz.underlying46 rfl (by rw [ints_size]; exact handle_info) rfl ?_
    rw [HR.out]
    exact ⟨rfl, HI6.out.drop.swap.drop.swap.drop⟩

set_option maxHeartbeats 4000000 in
set_option maxRecDepth 100000 in
theorem kill_in (h : In G w0 (WorldA p ls f :: l) w) (hk : WOk ls f) (s g : Int) :
    Calls Tryz.prog 94 #[.pointer (some ⟨p, 0, none⟩), .agg #[.int .i64 s, .int .i64 g]] w fun e w' => e = .returned (.int .i64 (killW ls f (s, g)).2) ∧ In G w0 (WorldA p (killW ls f (s, g)).1.1 (killW ls f (s, g)).1.2 :: l) w' := by
  have HI0 := Lib.hid h
  have HK := Lib.hid hk
  clear h hk
  go_enter Tryz.func94, Tryz.ntmps94
  go_upto_region 1 with (fail)
  refine wp_abs (In G w0 (WorldA p ls f :: Box w.heap.size 46 (ints [s, g]) :: l)) (HI0.out.alloc 46 (ints [s, g])).swap ?_
  generalize w.heap.size = hb
  intro w1 hI1
  obtain ⟨sp, tb, pb, T, hT, hI⟩ := hI1.openWorld
  obtain ⟨F1, hS⟩ := hI.swap.head
  have c0 : ∀ n : After w1, n.w.cell? ⟨p, 0, none⟩ = some (.pointer (some ⟨sp, 0, none⟩)) := fun n => (hI.blk.after n.below).cell 0
  have c1 : ∀ n : After w1, row? n.w hb 0 2 = some (ints [s, g]) := fun n => (hI1.swap.blk.after n.below).row_all rfl
  have HL : Hid (∀ n : After w1, Calls Tryz.prog 73 #[.pointer (some ⟨sp, 0, none⟩), .agg (ints [s, g])] n.w fun e w' => e = .returned (.bool (liveB ls s g)) ∧ Below n.w.heap.size n.w w') := fun n => live_any sp ls F1 s g n.w (ColAt.after hS n.below)
  have HI1 := Lib.hid hI1
  clear hI1 hI hS hT HI0
  cases hlv : liveB ls s g with
  | false =>
    have HR : Hid (killW ls f (s, g) = ((ls, f), 7)) := by unfold Hid killW; rw [if_neg (by simp [hlv])]
    rw [hlv] at HL
    clear hlv
    refine wp_region_after (by kernel_rfl) (by kernel_rfl) ?_
    repeat (go_big_quiet_step ((go_at_call 73; exact quiet_after (HL.out _))))
    refine wpQuiet_nil ?_
    rintro _ ⟨n, rfl⟩
    have HI2 := Lib.hid (HI1.out.below n.below)
    go_wp2_with fail
    go_ret
    rw [HR.out]
    exact ⟨rfl, HI2.out.swap.drop⟩
  | true =>
    have HLV := Lib.hid hlv
    have HR : Hid (killW ls f (s, g) = (((freeR ls s g).1, updB f s none), 0)) := by unfold Hid killW; rw [if_pos hlv]
    have HFR : Hid ((freeR ls s g).2 = 0) := by unfold Hid freeR; rw [if_pos hlv]
    rw [hlv] at HL
    clear hlv
    refine wp_region_after (by kernel_rfl) (by kernel_rfl) ?_
    repeat (go_big_quiet_step ((go_at_call 73; exact quiet_after (HL.out _))))
    refine wpQuiet_nil ?_
    rintro _ ⟨n, rfl⟩
    have hI2 := HI1.out.below n.below
    have k1 : row? n.w hb 0 2 = some (ints [s, g]) := hI2.swap.blk.row_all rfl
    have HLIFT := Lib.hid (lift_in hI2 s g (beastOf f s) (HK.out.get HLV.out))
    clear hI2 c0 c1 HL HI1
    generalize n.w = w2 at *
    go_wp2_with fail
    refine HLIFT.out.mono ?_
    rintro e w3 ⟨rfl, hI3⟩
    obtain ⟨sp, tb, pb, T, hT, hI⟩ := hI3.openWorld
    have k1 : row? w3 hb 0 2 = some (ints [s, g]) := hI3.swap.blk.row_all rfl
    have k2 : w3.cell? ⟨p, 0, none⟩ = some (.pointer (some ⟨sp, 0, none⟩)) := hI.blk.cell 0
    have HT := Lib.hid hT
    have HI := Lib.hid hI
    clear hI3 hI hT HLIFT
    go_upto_region 4 with (fail)
    go_still_tail 5, (by kernel_rfl)
    change wpList _ _ _ _ _ w3.drew
    have HI4 := Lib.hid HI.out.drew.swap
    clear HI k1 k2
    generalize w3.drew = w4 at *
    go_wp2_with fail
    refine (freeG_in HI4.out HK.out.so.gens s g).mono ?_
    rintro e w5 ⟨rfl, hI5⟩
    have HI5 : Hid (In G w0 (WorldA p (freeR ls s g).1 (updB f s none) :: Box hb 46 (ints [s, g]) :: l) w5) := In.shutWorld (l := Box hb 46 (ints [s, g]) :: l) HT.out hI5.swap
    rw [HFR.out]
    clear hI5 HI4 HT
    go_wp2_with fail
    go_ret
    rw [HR.out]
    exact ⟨rfl, HI5.out.swap.drop⟩
end

end Go.Proofs.YtpgcghnlepnoiaaGreatDoor

/-
  A zoo in memory: a struct that holds a world and a family.
-/
namespace Go.Proofs.YtpgcghnlepnoiaaGreatDoor
open Go.RowKit

abbrev ptr (p : Nat) : Value := .pointer (some ⟨p, 0, none⟩)
abbrev zBox (p wp fp : Nat) : Assn := Box p 87 #[ptr wp, ptr fp]
def ZooA (p : Nat) (z : ZS) : Assn where
  at_ w F := ∃ wp fp m, bondsOf m = z.B ∧ Sep [zBox p wp fp, WorldA wp z.ls z.f, FamA fp m] w F
  frame h ho hd := by obtain ⟨wp, fp, m, h1, hs⟩ := h; exact ⟨wp, fp, m, h1, hs.frame ho hd⟩
  cut h hd := by obtain ⟨wp, fp, m, h1, hs⟩ := h; exact ⟨wp, fp, m, h1, hs.cut hd⟩
section
variable {G : Nat → Prop} {w0 w : World} {l : List Assn} {p wp fp : Nat} {m : Fam} {z : ZS}
theorem In.openZoo (h : In G w0 (ZooA p z :: l) w) : ∃ wp fp m, bondsOf m = z.B ∧ FamOk m ∧ Alike m z.B ∧ In G w0 (zBox p wp fp :: WorldA wp z.ls z.f :: FamA fp m :: l) w := by
  obtain ⟨⟨F1, F2, ⟨wp, fp, m, hm, hs⟩, h2, h3, h4⟩, ho⟩ := h
  have h5 : In G w0 (zBox p wp fp :: WorldA wp z.ls z.f :: FamA fp m :: l) w := ⟨(Sep.join hs h2 h3).cut fun k _ hk => h4 k hk, ho⟩
  have hf := (h5.nth 2 (by simp)).famOk
  exact ⟨wp, fp, m, hm, hf, by rw [← hm]; exact (alike_bonds hf.nodup).symm, h5⟩
theorem In.shutZoo (hm : bondsOf m = z.B) (h : In G w0 (zBox p wp fp :: WorldA wp z.ls z.f :: FamA fp m :: l) w) : In G w0 (ZooA p z :: l) w := by
  obtain ⟨hs, ho⟩ := h
  obtain ⟨F1, F2, h1, h2, h3, h4⟩ := Sep.part (l1 := [zBox p wp fp, WorldA wp z.ls z.f, FamA fp m]) (l2 := l) hs
  exact ⟨⟨F1, F2, ⟨wp, fp, m, hm, h1⟩, h2, h3, h4⟩, ho⟩
end

end Go.Proofs.YtpgcghnlepnoiaaGreatDoor

/-
  The contract of world.Get.
-/
namespace Go.Proofs.YtpgcghnlepnoiaaGreatDoor
open Go.RowKit

/-- where a live beast lies -/
structure Lies (T : WT) (f : BF) (s g : Int) (K : Int) (i : Nat) : Prop where
  mem : K ∈ T.ks
  at_ : (T.rw K)[i]? = some ⟨(s, g), beastOf f s⟩
  place : mget T.ps s = some (K, (i : Int))
  slot : 0 ≤ s ∧ s < 60
  len : (T.rw K).length ≤ 60
  ok : beastErr (beastOf f s) = 0 ∧ (beastOf f s).v.length = 8
theorem TRep.lies {T : WT} {f : BF} {ls : List (Int × Bool)} (h : TRep T f) (hk : WOk ls f) {s g : Int} (hl : liveB ls s g = true) : ∃ K i, Lies T f s g K i := by
  have hf := hk.get hl
  obtain ⟨h1, h2, h3⟩ := h.ok s g _ hf
  obtain ⟨K, hK, i, hi⟩ := h.all s g _ hf
  exact ⟨K, i, hK, hi, (h.at_ K hK i _ hi).2, h3, h.rows_len hK, h1, h2⟩
theorem cell_new_alloc {w : World} {b o : Nat} {v : Value} (ob : Obj) (h : w.cell? ⟨b, o, none⟩ = some v) : (w.alloc ob).cell? ⟨b, o, none⟩ = some v :=
  (((Below.refl w.heap.size w).alloc (Nat.le_refl _) ob).cell (p := ⟨b, o, none⟩) (World.block_lt_of_cell? _ _ h)).trans h
theorem cell_after {w w' : World} {b o : Nat} {v : Value} (hb : Below w.heap.size w w') (h : w.cell? ⟨b, o, none⟩ = some v) : w'.cell? ⟨b, o, none⟩ = some v :=
  (hb.cell (p := ⟨b, o, none⟩) (World.block_lt_of_cell? _ _ h)).trans h
theorem cell_put_new {w : World} {b o : Nat} {v : Value} (t : TypeId) (zs xs : List Int) (h : w.cell? ⟨b, o, none⟩ = some v) : (putRow (w.alloc (.cells (ints zs) t)) w.heap.size 0 xs).cell? ⟨b, o, none⟩ = some v := cell_after (below_new_put w t zs xs) h
theorem cell_put_far {w : World} {b o g o' : Nat} {v : Value} {xs : List Int} (hne : b ≠ g) (h : w.cell? ⟨b, o, none⟩ = some v) : (putRow w g o' xs).cell? ⟨b, o, none⟩ = some v := by
  unfold World.cell? at *
  simp only [putRow_other w g o' xs b hne]
  exact h
section
variable {G : Nat → Prop} {w0 w : World} {l : List Assn} {p : Nat} {ls : List (Int × Bool)} {f : BF}
end

end Go.Proofs.YtpgcghnlepnoiaaGreatDoor

/-
  Structs whose cells are pointers or slices: load and store as rules of the walk.
-/
namespace Go.Proofs.YtpgcghnlepnoiaaGreatDoor
open Go.RowKit

def putVals (w : World) (g o : Nat) (vs : List Value) : World :=
  { w with heap := w.heap.modify g fun
      | .cells cs e fr => .cells (cs.toList.take o ++ vs ++ cs.toList.drop (o + vs.length)).toArray e fr
      | o => o }
theorem putVals_other (w : World) (g o : Nat) (xs : List Value) (k : Nat) (h : k ≠ g) : (putVals w g o xs).heap[k]? = w.heap[k]? := by
  simp [putVals, Array.getElem?_modify, Ne.symm h]
theorem putVals_size (w : World) (g o : Nat) (xs : List Value) : (putVals w g o xs).heap.size = w.heap.size := by simp [putVals]
theorem Only.putVals (w : World) (g o : Nat) (xs : List Value) : Only (· = g) w (Go.Proofs.YtpgcghnlepnoiaaGreatDoor.putVals w g o xs) := ⟨rfl, rfl, rfl, by rw [putVals_size]; exact Nat.le_refl _, fun q _ hq => putVals_other w g o xs q hq⟩
theorem Blk.putV {w : World} {g : Nat} {t : TypeId} {ys : Array Value} (h : Blk w g t ys) (xs : List Value) (hl : xs.length = ys.size) : Blk (putVals w g 0 xs) g t xs.toArray := by
  unfold Blk at h ⊢
  simp [putVals, Array.getElem?_modify, h]
  omega
theorem In.putV {G : Nat → Prop} {w0 w : World} {l : List Assn} {g : Nat} {t : TypeId} {ys : Array Value} (h : In G w0 (Box g t ys :: l) w) (xs : List Value) (hl : xs.length = ys.size) : In G w0 (Box g t xs.toArray :: l) (putVals w g 0 xs) := by
  obtain ⟨F1, ⟨h1, h2⟩, hF, hb⟩ := h.open_
  exact hb (A' := Box g t _) ⟨h1.putV xs hl, Or.inl h2⟩ ((Only.putVals w g 0 xs).mono fun k _ e => by rw [e]; exact h2)
theorem run_rowStoreV {P : Program} (w : World) (ty : TypeId) (g o n : Nat) (xs : List Value) (hi : (P.info? ty).map (·.size) = some n) (h1 : ∀ v ∈ xs, v.oneCell' = true) :
    (rowStore ty (.pointer (some ⟨g, o, none⟩)) (.agg xs.toArray)).run P w = if fits w g o n = true ∧ xs.length = n then .ok () (putVals w g o xs) else (slowStore ty g o (.agg xs.toArray)).run P w := by
  split
  · rename_i h
    obtain ⟨hf, hl⟩ := h
    unfold fits at hf
    split at hf
    · rename_i cs e hg
      have hn : o + n ≤ cs.size := by simpa using hf
      cases hq : P.info? ty with
      | none => simp [hq] at hi
      | some i =>
        have hs : i.size = n := by simpa [hq] using hi
        have hst := run_storeCells_at P g o e xs 0 cs w hg (by omega) h1
        have hlen : xs.toArray.size = i.size := by simp; omega
        have hll : xs.length = i.size := by omega
        simp only [rowStore, Instr.storeAt, Instr.sureAddr, storeVar, Sem.run_bind, sizeOf, typeInfo, run_program, Result.andThen_ok, hq, Sem.run_pure, Value.cells, hlen, ne_eq, not_true_eq_false, if_false, List.toList_toArray, hst, List.size_toArray, hll]
        congr 1
        unfold putVals World.setRow
        congr 1
        apply Array.ext_getElem?
        intro k
        rw [Array.getElem?_modify, Array.getElem?_modify]
        split
        · rename_i hk
          subst hk
          rw [hg]
          simp [hll]
        · rfl
    · cases hf
  · rfl
theorem fits_againV {w : World} {g n : Nat} {vs : List Value} (h : fits w g 0 n = true) (hl : vs.length = n) : fits (putVals w g 0 vs) g 0 n = true := by
  unfold fits at *
  split at h
  · rename_i cs t hg
    simp only [decide_eq_true_eq] at h
    simp [putVals, Array.getElem?_modify, hg]
    omega
  · cases h
theorem In.apart {G : Nat → Prop} {w0 w : World} {l : List Assn} {a b : Nat} {t t' : TypeId} {x y : Array Value} (h : In G w0 (Box a t x :: Box b t' y :: l) w) : a ≠ b := by
  obtain ⟨⟨F1, F2, h1, ⟨F3, F4, h2, _, _, h5⟩, h3, _⟩, _⟩ := h
  intro e
  exact h3 a h1.2 (h5 a (Or.inl (by rw [e]; exact h2.2)))
theorem cell_farV {w : World} {g g' o o' : Nat} {x : Value} {xs : List Value} (hne : g ≠ g') (h : w.cell? ⟨g, o, none⟩ = some x) : (putVals w g' o' xs).cell? ⟨g, o, none⟩ = some x := by
  unfold World.cell? at *
  simp only [putVals_other w g' o' xs g hne]; exact h

theorem zoo_info : (Tryz.prog.info? 87).map (·.size) = some 2 := by kernel_rfl
@[go_sem ↓] theorem loadAt_zoo (v : Value) : Instr.loadAt 87 v = rowLoad 87 v := rfl
@[go_sem ↓] theorem storeAt_zoo (p v : Value) : Instr.storeAt 87 p v = rowStore 87 p v := rfl
@[go_sem] theorem run_load_zoo (w : World) (g o : Nat) : (rowLoad 87 (.pointer (some ⟨g, o, none⟩))).run Tryz.prog w = match row? w g o 2 with | some cs => .ok (.agg cs) w | none => (slowLoad 87 ⟨g, o, none⟩).run Tryz.prog w :=
  run_rowLoad w _ g o 2 _ Tryz.underlying87 rfl zoo_info
@[go_sem] theorem run_store_zoo (w : World) (g o a b : Nat) : (rowStore 87 (.pointer (some ⟨g, o, none⟩)) (.agg #[ptr a, ptr b])).run Tryz.prog w =
    if fits w g o 2 = true then .ok () (putVals w g o [ptr a, ptr b]) else (slowStore 87 g o (.agg #[ptr a, ptr b])).run Tryz.prog w := by
  have h := run_rowStoreV w 87 g o 2 [ptr a, ptr b] zoo_info (by simp [Value.oneCell'])
  simp only [List.length_cons, List.length_nil, Nat.reduceAdd, and_true] at h
  exact h
theorem state_info : (Tryz.prog.info? 26).map (·.size) = some 3 := by kernel_rfl
@[go_sem ↓] theorem loadAt_state (v : Value) : Instr.loadAt 26 v = rowLoad 26 v := rfl
@[go_sem ↓] theorem storeAt_state (p v : Value) : Instr.storeAt 26 p v = rowStore 26 p v := rfl
@[go_sem] theorem run_load_state (w : World) (g o : Nat) : (rowLoad 26 (.pointer (some ⟨g, o, none⟩))).run Tryz.prog w = match row? w g o 3 with | some cs => .ok (.agg cs) w | none => (slowLoad 26 ⟨g, o, none⟩).run Tryz.prog w :=
  run_rowLoad w _ g o 3 _ Tryz.underlying26 rfl state_info
@[go_sem] theorem run_store_state (w : World) (g o : Nat) (a b c : Option Addr) (n1 n2 n3 c1 c2 c3 : Nat) : (rowStore 26 (.pointer (some ⟨g, o, none⟩)) (.agg #[.slice a n1 c1, .slice b n2 c2, .slice c n3 c3])).run Tryz.prog w =
    if fits w g o 3 = true then .ok () (putVals w g o [.slice a n1 c1, .slice b n2 c2, .slice c n3 c3]) else (slowStore 26 g o (.agg #[.slice a n1 c1, .slice b n2 c2, .slice c n3 c3])).run Tryz.prog w := by
  have h := run_rowStoreV w 26 g o 3 [.slice a n1 c1, .slice b n2 c2, .slice c n3 c3] state_info (by simp [Value.oneCell'])
  simp only [List.length_cons, List.length_nil, Nat.reduceAdd, and_true] at h
  exact h

end Go.Proofs.YtpgcghnlepnoiaaGreatDoor

/-
  The contracts of zoo.New and live.
-/
namespace Go.Proofs.YtpgcghnlepnoiaaGreatDoor
open Go.RowKit

section
variable {G : Nat → Prop} {w0 w : World} {l : List Assn} {p : Nat} {z : ZS}
set_option maxRecDepth 100000 in
theorem znew_in (h : In G w0 l w) : Calls Tryz.prog 33 #[] w fun e w' => ∃ p, e = .returned (ptr p) ∧ In G w0 (ZooA p zoo0 :: l) w' := by
  have H := Lib.hid h
  clear h
  go_enter Tryz.func33, Tryz.ntmps33
  go_wp2_with fail
  refine (wnew_in H.out).mono ?_
  rintro e w1 ⟨wp, rfl, hI⟩
  have H1 := Lib.hid hI
  clear hI H
  go_wp2_with fail
  refine (fnew_in H1.out).mono ?_
  rintro e w2 ⟨fp, rfl, hI⟩
  have H2 := Lib.hid (hI.alloc 87 #[ptr wp, ptr fp])
  clear hI H1
  go_wp2_with fail
  go_ret
  exact ⟨w2.heap.size, rfl, In.shutZoo (z := zoo0) (m := []) bonds_nil (H2.out.perm ((List.Perm.swap _ _ _).cons _))⟩
/-- the first that does not live -/
def liveZ (z : ZS) (hs : List Hd) : Bool := hs.all fun h => z.live h
set_option maxHeartbeats 1000000 in
set_option maxRecDepth 100000 in
theorem zlive_in {hv : Value} {hs : List Hd} (h : In G w0 (ZooA p z :: RowH hv hs :: l) w) (hl : hs.length ≤ 1099511627776) :
    Calls Tryz.prog 42 #[ptr p, hv] w fun e w' => e = .returned (.int .i64 (if liveZ z hs = true then 0 else 7)) ∧ In G w0 (ZooA p z :: RowH hv hs :: l) w' := by
  obtain ⟨A, c, rfl, hc1, hc2, _⟩ := rowH_at h.swap.rowAt
  have H0 := Lib.hid h
  clear h
  obtain ⟨qe, HQ⟩ : ∃ qe : Int, Hid (qe = if liveZ z hs = true then 0 else 7) := ⟨_, rfl⟩
  rw [← HQ.out]
  go_enter Tryz.func42, Tryz.ntmps42
  go_wp2_with fail
  go_loopw [9] (fun i w' => ∃ k : Nat, k ≤ hs.length ∧ i = .int .i64 k ∧ liveZ z (hs.take k) = true ∧ In G w0 (ZooA p z :: RowH (.slice A hs.length c) hs :: l) w') (fun i _ => hs.length - (intOf i).toNat)
  case atStart => exact ⟨0, Nat.zero_le _, rfl, rfl, H0.out⟩
  case round =>
    clear H0
    obtain ⟨k, hk, rfl, hlk, hI⟩ := hrel
    by_cases hlt : k < hs.length
    · have hki : (k : Int) < hs.length := by omega
      obtain ⟨A', c', e0, _, hkc, hrow⟩ := rowH_at hI.swap.rowAt
      injection e0 with e1 e2 e3
      subst e1; subst e3
      obtain ⟨g, rfl, q1⟩ := hrow k hlt
      have HS : Hid (liveZ z (hs.take (k + 1)) = z.live hs[k]) := by
        unfold Hid liveZ at *
        rw [List.take_succ_eq_append_getElem hlt, List.all_append, hlk]; simp
      have HALL : Hid (z.live hs[k] = false → liveZ z hs = false) := fun hf => by
        unfold liveZ
        rw [List.all_eq_false]
        exact ⟨_, List.getElem_mem hlt, by rw [hf]; simp⟩
      have hkc' : (hs.length : Int) ≤ c := by omega
      have HI := Lib.hid hI
      clear hrow e2 hI hlk
      generalize hs[k] = x at *
      obtain ⟨x1, x2⟩ := x
      go_upto_region 4 with (fail)
      refine wp_abs (In G w0 (Box wr.heap.size 46 (ints [x1, x2]) :: ZooA p z :: RowH (.slice (some ⟨g, 0, none⟩) hs.length c) hs :: l)) (HI.out.struct 46 [0, 0] [x1, x2] rfl) ?_
      generalize wr.heap.size = cb
      intro w3 hI3
      have q2 : ∀ n : After w3, row? n.w cb 0 2 = some (ints [x1, x2]) := fun n => (hI3.blk.after n.below).row_all rfl
      obtain ⟨wp, fp, m, hm, hf, ha, hI4⟩ := hI3.swap.openZoo
      have q3 : ∀ n : After w3, n.w.cell? ⟨p, 0, none⟩ = some (ptr wp) := fun n => (hI4.blk.after n.below).cell 0
      obtain ⟨sp, F, q4, hS⟩ := hI4.swap.slotsOf
      have HL : Hid (∀ n : After w3, Calls Tryz.prog 73 #[.pointer (some ⟨sp, 0, none⟩), .agg (ints [x1, x2])] n.w fun e w' => e = .returned (.bool (z.live (x1, x2))) ∧ Below n.w.heap.size n.w w') := fun n => live_any sp z.ls F x1 x2 n.w (hS n)
      have HI3 := Lib.hid hI3
      clear hI3 hI4 hm hf ha hS HI q1
      cases hlv : z.live (x1, x2) with
      | false =>
        rw [hlv] at HL HS HALL
        have HA : Hid (liveZ z hs = false) := HALL.out rfl
        refine wp_region_after (by kernel_rfl) (by kernel_rfl) ?_
        repeat (go_big_quiet_step ((go_at_call 73; exact quiet_after (HL.out _))))
        refine wpQuiet_nil ?_
        rintro _ ⟨n, rfl⟩
        have HI5 := Lib.hid (HI3.out.below n.below)
        go_wp2_with fail
        go_ret
        have hq : qe = 7 := by rw [HQ.out, HA.out]; rfl
        rw [hq]
        exact ⟨rfl, HI5.out.drop⟩
      | true =>
        rw [hlv] at HL HS HALL
        clear HALL
        refine wp_region_after (by kernel_rfl) (by kernel_rfl) ?_
        repeat (go_big_quiet_step ((go_at_call 73; exact quiet_after (HL.out _))))
        refine wpQuiet_nil ?_
        rintro _ ⟨n, rfl⟩
        have HI5 := Lib.hid (HI3.out.below n.below)
        go_wp2_with fail
        go_roundw
        case rel => exact ⟨k + 1, by omega, by go_num, HS.out, HI5.out.drop⟩
        case measure => simp [intOf]; omega
    · have : k = hs.length := by omega
      subst this
      have HA : Hid (liveZ z hs = true) := by rw [List.take_length] at hlk; exact hlk
      have HI := Lib.hid hI
      clear hI hlk
      go_wp2_with fail
      go_ret
      have hq : qe = 0 := by rw [HQ.out, HA.out]; rfl
      rw [hq]
      exact ⟨rfl, HI.out⟩
end

end Go.Proofs.YtpgcghnlepnoiaaGreatDoor

/-
  The contracts of world.isKind and Put.
-/
namespace Go.Proofs.YtpgcghnlepnoiaaGreatDoor
open Go.RowKit

theorem andNot_bit : ∀ (m k : Nat), m < 256 → k < 8 → m.testBit k = true → bits .andNot .i64 (m : Int) (wrap64 (2 ^ k)) = ((m - 2 ^ k : Nat) : Int) := by
  have h : ∀ (m : Fin 256) (k : Fin 8), m.val.testBit k.val = true → bits .andNot .i64 (m.val : Int) (wrap64 (2 ^ k.val)) = ((m.val - 2 ^ k.val : Nat) : Int) := by decide +kernel
  exact fun m k hm hk => h ⟨m, hm⟩ ⟨k, hk⟩
theorem TRep.set_rep {T : WT} {f : BF} {s g K : Int} {b b' : Beast} (h : TRep T f) (hK : K ∈ T.ks) {i : Nat} (hi : (T.rw K)[i]? = some ⟨(s, g), b⟩) (hb : beastErr b' = 0 ∧ b'.v.length = 8) :
    TRep ⟨T.ks, T.pt, updR T.rw K ((T.rw K).set i ⟨(s, g), b'⟩), T.ps⟩ (updB f s (some (g, b'))) := by
  have hil := (List.getElem?_eq_some_iff.1 hi).1
  obtain ⟨hfs, hps⟩ := h.at_ K hK i _ hi
  simp only at hfs hps
  have hother : ∀ K' ∈ T.ks, ∀ (j : Nat) r, (T.rw K')[j]? = some r → ¬ (K' = K ∧ j = i) → updB f s (some (g, b')) r.h.1 = some (r.h.2, r.b) ∧ mget T.ps r.h.1 = some (K', (j : Int)) := by
    intro K' hK' j r hr hne
    obtain ⟨h1, h2⟩ := h.at_ K' hK' j r hr
    have hns : r.h.1 ≠ s := fun e => by
      rw [e, hps] at h2
      injection h2 with h2
      injection h2 with h2 h3
      exact hne ⟨h2.symm, by omega⟩
    unfold updB
    rw [if_neg hns]
    exact ⟨h1, h2⟩
  refine ⟨h.nd, fun K' hK' => ?_, fun K' hK' j r hr => ?_, fun s' g' b2 hs => ?_, fun s' g' b2 hs => ?_⟩
  · simp only [updR]
    split
    · intro h0
      have := congrArg List.length h0
      rw [List.length_set] at this
      simp at this
      rw [this] at hil; simp at hil
    · exact h.ne K' hK'
  · simp only at hr hK' ⊢
    by_cases e : K' = K
    · subst e
      rw [updR_same, List.getElem?_set] at hr
      by_cases ej : i = j
      · subst ej
        rw [if_pos rfl, if_pos hil] at hr
        injection hr with hr
        subst hr
        unfold updB
        rw [if_pos rfl]
        exact ⟨rfl, hps⟩
      · rw [if_neg ej] at hr
        exact hother K' hK' j r hr (fun h => ej h.2.symm)
    · rw [updR_other _ _ e] at hr
      exact hother K' hK' j r hr (fun h => e h.1)
  · unfold updB at hs
    split at hs
    · rename_i e
      injection hs with hs
      injection hs with h1 h2
      subst e; subst h1; subst h2
      exact ⟨K, hK, i, by simp only [updR_same]; rw [List.getElem?_set, if_pos rfl, if_pos hil]⟩
    · rename_i hne
      obtain ⟨K', hK', j, hj⟩ := h.all s' g' b2 hs
      refine ⟨K', hK', j, ?_⟩
      simp only
      by_cases e : K' = K
      · subst e
        rw [updR_same, List.getElem?_set]
        by_cases ej : i = j
        · subst ej
          rw [hi] at hj
          injection hj with hj
          injection hj with hj _
          injection hj with hj _
          exact absurd hj.symm hne
        · rw [if_neg ej]; exact hj
      · rw [updR_other _ _ e]; exact hj
  · unfold updB at hs
    split at hs
    · rename_i e
      injection hs with hs
      injection hs with _ h2
      subst e; subst h2
      obtain ⟨_, _, h3⟩ := h.ok s' g b hfs
      exact ⟨hb.1, hb.2, h3⟩
    · exact h.ok s' g' b2 hs
theorem upd_twice (f : BF) (s : Int) (x y : Option (Int × Beast)) : updB (updB f s x) s y = updB f s y := by
  funext k
  unfold updB
  split <;> rfl
theorem mem_tks {K : Int} {k : Nat} (hk : k < 8) (ht : K.toNat.testBit k = true) : k ∈ tks K := List.mem_filter.2 ⟨List.mem_range.2 hk, ht⟩

theorem isKind_yes (k : Int) (h : 0 ≤ k ∧ k < 8) (w : World) : Calls Tryz.prog 96 #[.int .i64 k] w fun e w' => e = .returned (.bool true) ∧ w = w' := by
  obtain ⟨h1, h2⟩ := h
  go_enter Tryz.func96, Tryz.ntmps96
  go_wp2
  go_ret
  exact ⟨rfl, rfl⟩
theorem isKind_no (k : Int) (h : ¬ (0 ≤ k ∧ k < 8)) (w : World) : Calls Tryz.prog 96 #[.int .i64 k] w fun e w' => e = .returned (.bool false) ∧ w = w' := by
  by_cases h1 : 0 ≤ k
  · have h2 : Hid (8 ≤ k) := by unfold Hid; omega
    clear h
    go_enter Tryz.func96, Tryz.ntmps96
    go_wp2
    go_ret
    exact ⟨ret_bool (decide_eq_false (by have := h2.out; omega)), rfl⟩
  · have h2 : k < 0 := by omega
    clear h h1
    go_enter Tryz.func96, Tryz.ntmps96
    go_wp2
    go_ret
    exact ⟨rfl, rfl⟩
section
variable {G : Nat → Prop} {w0 w : World} {l : List Assn} {p : Nat} {ls : List (Int × Bool)} {f : BF}
set_option maxHeartbeats 8000000 in
set_option maxRecDepth 100000 in
theorem put_in (h : In G w0 (WorldA p ls f :: l) w) (hk : WOk ls f) (s g kind n : Int) :
    Calls Tryz.prog 58 #[.pointer (some ⟨p, 0, none⟩), .agg #[.int .i64 s, .int .i64 g], .int .i64 kind, .int .i64 n] w fun e w' => e = .returned (.int .i64 (putW ls f (s, g) kind n).2) ∧ In G w0 (WorldA p ls (putW ls f (s, g) kind n).1 :: l) w' := by
  have HI0 := Lib.hid h
  have HK := Lib.hid hk
  clear h hk
  go_enter Tryz.func58, Tryz.ntmps58
  go_upto_region 1 with (fail)
  refine wp_abs (In G w0 (WorldA p ls f :: Box w.heap.size 46 (ints [s, g]) :: l)) (HI0.out.alloc 46 (ints [s, g])).swap ?_
  generalize w.heap.size = hb
  intro w1 hI1
  obtain ⟨sp, tb, pb, T, hT, hI⟩ := hI1.openWorld
  obtain ⟨F1, hS⟩ := hI.swap.head
  have c0 : ∀ n : After w1, n.w.cell? ⟨p, 0, none⟩ = some (.pointer (some ⟨sp, 0, none⟩)) := fun n => (hI.blk.after n.below).cell 0
  have c1 : ∀ n : After w1, row? n.w hb 0 2 = some (ints [s, g]) := fun n => (hI1.swap.blk.after n.below).row_all rfl
  have HL : Hid (∀ n : After w1, Calls Tryz.prog 73 #[.pointer (some ⟨sp, 0, none⟩), .agg (ints [s, g])] n.w fun e w' => e = .returned (.bool (liveB ls s g)) ∧ Below n.w.heap.size n.w w') := fun n => live_any sp ls F1 s g n.w (ColAt.after hS n.below)
  have HT := Lib.hid hT
  have HI := Lib.hid hI
  clear hI1 hI hS hT HI0
  cases hlv : liveB ls s g with
  | false =>
    have HR : Hid (putW ls f (s, g) kind n = (f, 7)) := by unfold Hid putW; rw [if_pos (by simp [hlv])]
    rw [hlv] at HL
    clear hlv
    refine wp_region_after (by kernel_rfl) (by kernel_rfl) ?_
    repeat (go_big_quiet_step ((go_at_call 73; exact quiet_after (HL.out _))))
    refine wpQuiet_nil ?_
    rintro _ ⟨na, rfl⟩
    have HI2 := Lib.hid (In.shutWorld (l := Box hb 46 (ints [s, g]) :: l) HT.out (HI.out.below na.below))
    go_wp2_with fail
    go_ret
    rw [HR.out]
    exact ⟨rfl, HI2.out.swap.drop⟩
  | true =>
    have HLV := Lib.hid hlv
    rw [hlv] at HL
    clear hlv
    refine wp_region_after (by kernel_rfl) (by kernel_rfl) ?_
    repeat (go_big_quiet_step ((go_at_call 73; exact quiet_after (HL.out _))))
    refine wpQuiet_nil ?_
    rintro _ ⟨na, rfl⟩
    have hI2 : In G w0 (Box p 99 #[.pointer (some ⟨sp, 0, none⟩), .map (some tb), .map (some pb)] :: SlotsA sp ls :: PtrMap tb (T.ks.map fun K => (K, T.pt K)) :: PlaceMap pb T.ps :: Box hb 46 (ints [s, g]) :: (l ++ T.ks.map (tblOf T))) na.w := HI.out.below na.below
    have HI2 := Lib.hid hI2
    generalize na.w = w2 at *
    clear c0 c1 HL HI hI2
    by_cases hkd : 0 ≤ kind ∧ kind < 8
    rotate_left
    · have HR : Hid (putW ls f (s, g) kind n = (f, 1)) := by unfold Hid putW; rw [if_neg (by simp [HLV.out]), if_pos (Or.inl hkd)]
      have HKD := Lib.hid (isKind_no kind hkd w2)
      clear hkd
      have HI3 := Lib.hid (In.shutWorld (l := Box hb 46 (ints [s, g]) :: l) HT.out HI2.out)
      go_wp2_with fail
      refine HKD.out.mono ?_
      rintro e w3 ⟨rfl, rfl⟩
      go_wp2_with fail
      go_ret
      rw [HR.out]
      exact ⟨rfl, HI3.out.swap.drop⟩
    have HKD := Lib.hid (isKind_yes kind hkd w2)
    by_cases hn : -1000000000 ≤ n ∧ n ≤ 1000000000
    rotate_left
    · have HR : Hid (putW ls f (s, g) kind n = (f, 1)) := by unfold Hid putW; rw [if_neg (by simp [HLV.out]), if_pos (by omega)]
      have HI3 := Lib.hid (In.shutWorld (l := Box hb 46 (ints [s, g]) :: l) HT.out HI2.out)
      by_cases hn1 : n < -1000000000
      · have hd1 : decide (n < -1000000000) = true := decide_eq_true hn1
        clear hn hkd
        go_wp2_with fail
        refine HKD.out.mono ?_
        rintro e w3 ⟨rfl, rfl⟩
        go_wp2_with fail
        go_ret
        rw [HR.out]
        exact ⟨rfl, HI3.out.swap.drop⟩
      · have hd1 : decide (n < -1000000000) = false := decide_eq_false hn1
        have hd2 : decide (1000000000 < n) = true := decide_eq_true (by omega)
        have hn2 : 1000000000 < n := by omega
        clear hn hkd
        go_wp2_with fail
        refine HKD.out.mono ?_
        rintro e w3 ⟨rfl, rfl⟩
        go_wp2_with fail
        go_ret
        rw [HR.out]
        exact ⟨rfl, HI3.out.swap.drop⟩
    have hd1 : decide (n < -1000000000) = false := decide_eq_false (by omega)
    have hd2 : decide (1000000000 < n) = false := decide_eq_false (by omega)
    obtain ⟨k, rfl⟩ : ∃ k : Nat, kind = k := ⟨kind.toNat, by omega⟩
    have hk8 : k < 8 := by omega
    have HR : Hid (putW ls f (s, g) (k : Int) n = (updB f s (some (g, putB (beastOf f s) k n)), 0)) := by
      unfold Hid putW; rw [if_neg (by simp [HLV.out]), if_neg (by omega), Int.toNat_natCast]
    obtain ⟨K, i, hLi⟩ := HT.out.lies HK.out HLV.out
    obtain ⟨hKk, hKb⟩ := tbl_kind (In.pickT (X := Box p 99 #[.pointer (some ⟨sp, 0, none⟩), .map (some tb), .map (some pb)] :: SlotsA sp ls :: PtrMap tb (T.ks.map fun K => (K, T.pt K)) :: PlaceMap pb T.ps :: Box hb 46 (ints [s, g]) :: l) HI2.out hLi.mem)
    have HKB : Hid ((beastOf f s).k = K) := hKb _ (List.mem_of_getElem? hLi.at_)
    have HLI := Lib.hid hLi
    have HKK := Lib.hid hKk
    have HN := Lib.hid hn
    have hkI : (k : Int) < 8 := by omega
    go_wp2_with fail
    refine HKD.out.mono ?_
    rintro e w3 ⟨rfl, rfl⟩
    go_upto_region 5 with (fail)
    clear hd1 hd2 hLi hKk hKb hn hkd HKD
    have hI2 := HI2.out
    have hmap := hI2.fourth.mapAt
    have k0 : w2.cell? ⟨p, 2, none⟩ = some (.map (some pb)) := hI2.blk.cell 2
    have k1 : w2.cell? ⟨hb, 0, none⟩ = some (.int .i64 s) := hI2.fifth.blk.cell 0
    have k2 : (w2.alloc (.cells #[.int .i64 0, .int .i64 0] 172)).cell? ⟨p, 2, none⟩ = some (.map (some pb)) := cell_new_alloc _ k0
    have k3 : (w2.alloc (.cells #[.int .i64 0, .int .i64 0] 172)).cell? ⟨hb, 0, none⟩ = some (.int .i64 s) := cell_new_alloc _ k1
    have hl1 := look_place hmap HLI.out.slot HLI.out.place (Below.refl _ _).drew
    have hl2 := look_place hmap HLI.out.slot HLI.out.place (((Below.refl _ w2).alloc (Nat.le_refl _) (.cells #[.int .i64 0, .int .i64 0] 172)).drew)
    have HMOVE : Hid (∀ w3, w3 = (putRow (w2.alloc (.cells (ints [0, 0]) 172)) w2.heap.size 0 [K, (i : Int)]).drew → In G w0 (Box w2.heap.size 172 (ints [K, (i : Int)]) :: Box p 99 #[.pointer (some ⟨sp, 0, none⟩), .map (some tb), .map (some pb)] :: SlotsA sp ls :: PtrMap tb (T.ks.map fun K => (K, T.pt K)) :: PlaceMap pb T.ps :: Box hb 46 (ints [s, g]) :: (l ++ T.ks.map (tblOf T))) w3) := fun w3 e => by
      rw [e]
      exact (hI2.struct 172 [0, 0] [K, (i : Int)] rfl).drew
    clear hI2 hmap HI2
    go_region
    all_goals
      go_upto_region 6 with (fail)
      refine wp_abs (In G w0 (Box w2.heap.size 172 (ints [K, (i : Int)]) :: Box p 99 #[.pointer (some ⟨sp, 0, none⟩), .map (some tb), .map (some pb)] :: SlotsA sp ls :: PtrMap tb (T.ks.map fun K => (K, T.pt K)) :: PlaceMap pb T.ps :: Box hb 46 (ints [s, g]) :: (l ++ T.ks.map (tblOf T)))) (HMOVE.out _ rfl) ?_
      clear k0 k1 k2 k3 hl1 hl2 HMOVE
      generalize w2.heap.size = lb
      intro w3 hI3
      have s2 : w3.cell? ⟨lb, 0, none⟩ = some (.int .i64 K) := hI3.blk.cell 0
      have hK2 : ((K.toNat : Nat) : Int) = K := by have := HKK.out; omega
      have hbit := and_bit K.toNat k (by have := HKK.out; omega) hk8
      rw [hK2] at hbit
      have HK2 := Lib.hid hK2
      clear hK2
      have HI3 := Lib.hid hI3
      clear hI3
      cases htb : K.toNat.testBit k with
      | true =>
        rw [htb] at hbit
        have h1 : (bits BinOp.and IntKind.i64 (K / 2 ^ k) 1 == 1) = true := by rw [hbit]; rfl
        have HTB := Lib.hid htb
        clear hbit htb
        go_upto_region 7 with (fail)
        clear h1
        have hI3 := HI3.out
        have hl3 := look_tbl hI3.fourth.mapAt HLI.out.mem HKK.out (Below.refl _ _)
        have hl4 := look_tbl hI3.fourth.mapAt HLI.out.mem HKK.out (Below.refl _ _).drew
        have s1 : w3.cell? ⟨p, 1, none⟩ = some (.map (some tb)) := hI3.swap.blk.cell 1
        have s3 : w3.cell? ⟨lb, 1, none⟩ = some (.int .i64 (i : Int)) := hI3.blk.cell 1
        have hil := (List.getElem?_eq_some_iff.1 HLI.out.at_).1
        have HSET := Lib.hid (tset_in (In.pickT (X := Box lb 172 (ints [K, (i : Int)]) :: Box p 99 #[.pointer (some ⟨sp, 0, none⟩), .map (some tb), .map (some pb)] :: SlotsA sp ls :: PtrMap tb (T.ks.map fun K => (K, T.pt K)) :: PlaceMap pb T.ps :: Box hb 46 (ints [s, g]) :: l) hI3.drew HLI.out.mem) i hil (by have := HLI.out.len; omega) k (mem_tks hk8 HTB.out) hk8 n HN.out)
        have HSB : Hid (setB ((T.rw K)[i]'hil) k n = ⟨(s, g), putB (beastOf f s) k n⟩) := by
          have h0 := HLI.out.at_
          rw [List.getElem?_eq_getElem hil] at h0
          injection h0 with h0
          unfold Hid setB putB
          rw [h0, HKB.out, or_same K.toNat k (by have := HKK.out; omega) hk8 HTB.out, HK2.out]
        rw [HSB.out] at HSET
        have HREP := Lib.hid (HT.out.set_rep HLI.out.mem HLI.out.at_ (put_err HLI.out.ok.1 HLI.out.ok.2 hk8 HN.out))
        clear hI3 HSB hil
        go_still_tail 11, (by kernel_rfl)
        change wpList _ _ _ _ _ w3.drew
        clear hl3 hl4 s1 s2 s3 HI3
        generalize w3.drew = w4 at *
        go_wp2_with fail
        refine HSET.out.mono ?_
        rintro e w5 ⟨rfl, hI5⟩
        have hI6 : In G w0 (Box lb 172 (ints [K, (i : Int)]) :: Box p 99 #[.pointer (some ⟨sp, 0, none⟩), .map (some tb), .map (some pb)] :: SlotsA sp ls :: PtrMap tb (T.ks.map fun K => (K, T.pt K)) :: PlaceMap pb T.ps :: Box hb 46 (ints [s, g]) :: (l ++ T.ks.map (tblOf ⟨T.ks, T.pt, updR T.rw K ((T.rw K).set i ⟨(s, g), putB (beastOf f s) k n⟩), T.ps⟩))) w5 := In.backT (X := Box lb 172 (ints [K, (i : Int)]) :: Box p 99 #[.pointer (some ⟨sp, 0, none⟩), .map (some tb), .map (some pb)] :: SlotsA sp ls :: PtrMap tb (T.ks.map fun K => (K, T.pt K)) :: PlaceMap pb T.ps :: Box hb 46 (ints [s, g]) :: l) HT.out.nd HLI.out.mem hI5
        have HI7 := Lib.hid (In.shutWorld (l := Box hb 46 (ints [s, g]) :: l) HREP.out hI6.drop)
        clear hI5 hI6 HSET
        go_wp2_with fail
        go_ret
        rw [HR.out]
        exact ⟨rfl, HI7.out.swap.drop⟩
      | false =>
        rw [htb] at hbit
        have h1 : (bits BinOp.and IntKind.i64 (K / 2 ^ k) 1 == 1) = false := by rw [hbit]; rfl
        have HTB := Lib.hid htb
        clear hbit htb
        go_upto_region 8 with (fail)
        clear h1 s2
        have hI4 := In.shutWorld (l := Box lb 172 (ints [K, (i : Int)]) :: Box hb 46 (ints [s, g]) :: l) HT.out (HI3.out.reorder 6 [1, 2, 3, 4, 0, 5] rfl (by simp))
        have s4 : row? w3 hb 0 2 = some (ints [s, g]) := hI4.third.blk.row_all rfl
        have HLIFT := Lib.hid (lift_in hI4 s g (beastOf f s) (HK.out.get HLV.out))
        have hbl : (beastOf f s).list.length = 9 := by unfold Beast.list; rw [List.length_cons, HLI.out.ok.2]
        clear hI4 HI3
        go_wp2_with fail
        refine HLIFT.out.mono ?_
        rintro e w4 ⟨rfl, hI5⟩
        have HI5 := Lib.hid hI5
        clear hI5 HLIFT
        go_upto_region 9 with (fail)
        refine wp_abs (In G w0 (Box w4.heap.size 49 (ints (beastOf f s).list) :: WorldA p ls (updB f s none) :: Box lb 172 (ints [K, (i : Int)]) :: Box hb 46 (ints [s, g]) :: l)) (HI5.out.struct 49 [0, 0, 0, 0, 0, 0, 0, 0, 0] _ hbl) ?_
        generalize w4.heap.size = bb
        intro w5 hI6
        have hbk : (beastOf f s).list = K :: (beastOf f s).v := by unfold Beast.list; rw [HKB.out]
        have q1 : w5.cell? ⟨bb, 0, none⟩ = some (.int .i64 K) := by rw [hI6.blk.cell 0, hbk]; rfl
        have q2 : w5.frozen? ⟨bb, 0, none⟩ = false := hI6.blk.frozen 0
        have hor := or_bit K.toNat k (by have := HKK.out; omega) hk8
        rw [HK2.out] at hor
        have hI7 := hI6.set 0 (.int .i64 ((K.toNat ||| 2 ^ k : Nat) : Int))
        rw [ints_set] at hI7
        have hset : (beastOf f s).list.set 0 ((K.toNat ||| 2 ^ k : Nat) : Int) = ((K.toNat ||| 2 ^ k : Nat) : Int) :: (beastOf f s).v := by rw [hbk]; rfl
        rw [hset] at hI7
        have HI7 := Lib.hid hI7
        have HBP : Hid ((putB (beastOf f s) k n).list = ((K.toNat ||| 2 ^ k : Nat) : Int) :: (beastOf f s).v.set k n) := by unfold Hid putB Beast.list; rw [HKB.out]
        clear hI6 hI7 hset hbk HI5
        go_region
        go_upto_region 10 with (fail)
        refine wp_abs (In G w0 (Box bb 49 (ints (((K.toNat ||| 2 ^ k : Nat) : Int) :: (beastOf f s).v)) :: WorldA p ls (updB f s none) :: Box lb 172 (ints [K, (i : Int)]) :: Box hb 46 (ints [s, g]) :: l)) HI7.out.drew ?_
        clear q1 q2 hor HI7 s4
        intro w6 hI8
        have q3 : w6.frozen? ⟨bb, 1 + k, none⟩ = false := hI8.blk.frozen (1 + k)
        have q4 : w6.cell? ⟨bb, 1 + k, none⟩ = some (.int .i64 ((beastOf f s).v.getD k 0)) := by
          have hk9 : 1 + k < (((K.toNat ||| 2 ^ k : Nat) : Int) :: (beastOf f s).v).length := by rw [List.length_cons, HLI.out.ok.2]; omega
          rw [hI8.blk.cell (1 + k), ints_at hk9]
          simp [Nat.add_comm 1 k, List.getD_eq_getElem?_getD, HLI.out.ok.2, hk8]
        have hI9 := hI8.set (1 + k) (.int .i64 n)
        rw [ints_set, Nat.add_comm 1 k, List.set_cons_succ, ← HBP.out, Nat.add_comm k 1] at hI9
        have hpl : (putB (beastOf f s) k n).list.length = 9 := by rw [HBP.out, List.length_cons, List.length_set, HLI.out.ok.2]
        have HI9 := Lib.hid hI9
        clear hI8 hI9
        have hk1 : (0 : Int) ≤ (k : Int) := by omega
        go_upto_region 11 with (fail)
        refine wp_abs (In G w0 (Box bb 49 (ints (putB (beastOf f s) k n).list) :: WorldA p ls (updB f s none) :: Box lb 172 (ints [K, (i : Int)]) :: Box hb 46 (ints [s, g]) :: l)) HI9.out ?_
        clear q3 q4 HI9
        intro w7 hI10
        have q5 : row? w7 bb 0 9 = some (ints (putB (beastOf f s) k n).list) := hI10.blk.row_all hpl
        have q6 : row? w7 hb 0 2 = some (ints [s, g]) := hI10.fourth.blk.row_all rfl
        have hpe := put_err HLI.out.ok.1 HLI.out.ok.2 hk8 HN.out
        have HLAY := Lib.hid (lay_in hI10.swap s g (putB (beastOf f s) k n) (by unfold updB; rw [if_pos rfl]) ⟨hpe.1, hpe.2, HLI.out.slot⟩)
        rw [upd_twice] at HLAY
        clear hI10 hpe
        go_wp2_with fail
        refine HLAY.out.mono ?_
        rintro e w8 ⟨rfl, hI11⟩
        have HI11 := Lib.hid hI11
        clear hI11 HLAY q5 q6
        go_wp2_with fail
        go_ret
        rw [HR.out]
        exact ⟨rfl, HI11.out.swap.drop.swap.drop.swap.drop⟩
end

end Go.Proofs.YtpgcghnlepnoiaaGreatDoor

/-
  The contract of world.Drop.
-/
namespace Go.Proofs.YtpgcghnlepnoiaaGreatDoor
open Go.RowKit

section
variable {G : Nat → Prop} {w0 w : World} {l : List Assn} {p : Nat} {ls : List (Int × Bool)} {f : BF}
set_option maxHeartbeats 8000000 in
set_option maxRecDepth 100000 in
theorem drop_in (h : In G w0 (WorldA p ls f :: l) w) (hk : WOk ls f) (s g kind : Int) :
    Calls Tryz.prog 59 #[.pointer (some ⟨p, 0, none⟩), .agg #[.int .i64 s, .int .i64 g], .int .i64 kind] w fun e w' => e = .returned (.int .i64 (dropW ls f (s, g) kind).2) ∧ In G w0 (WorldA p ls (dropW ls f (s, g) kind).1 :: l) w' := by
  have HI0 := Lib.hid h
  have HK := Lib.hid hk
  clear h hk
  go_enter Tryz.func59, Tryz.ntmps59
  go_upto_region 1 with (fail)
  refine wp_abs (In G w0 (WorldA p ls f :: Box w.heap.size 46 (ints [s, g]) :: l)) (HI0.out.alloc 46 (ints [s, g])).swap ?_
  generalize w.heap.size = hb
  intro w1 hI1
  obtain ⟨sp, tb, pb, T, hT, hI⟩ := hI1.openWorld
  obtain ⟨F1, hS⟩ := hI.swap.head
  have c0 : ∀ n : After w1, n.w.cell? ⟨p, 0, none⟩ = some (.pointer (some ⟨sp, 0, none⟩)) := fun n => (hI.blk.after n.below).cell 0
  have c1 : ∀ n : After w1, row? n.w hb 0 2 = some (ints [s, g]) := fun n => (hI1.swap.blk.after n.below).row_all rfl
  have HL : Hid (∀ n : After w1, Calls Tryz.prog 73 #[.pointer (some ⟨sp, 0, none⟩), .agg (ints [s, g])] n.w fun e w' => e = .returned (.bool (liveB ls s g)) ∧ Below n.w.heap.size n.w w') := fun n => live_any sp ls F1 s g n.w (ColAt.after hS n.below)
  have HT := Lib.hid hT
  have HI := Lib.hid hI
  clear hI1 hI hS hT HI0
  cases hlv : liveB ls s g with
  | false =>
    have HR : Hid (dropW ls f (s, g) kind = (f, 7)) := by unfold Hid dropW; rw [if_pos (by simp [hlv])]
    rw [hlv] at HL
    clear hlv
    refine wp_region_after (by kernel_rfl) (by kernel_rfl) ?_
    repeat (go_big_quiet_step ((go_at_call 73; exact quiet_after (HL.out _))))
    refine wpQuiet_nil ?_
    rintro _ ⟨na, rfl⟩
    have HI2 := Lib.hid (In.shutWorld (l := Box hb 46 (ints [s, g]) :: l) HT.out (HI.out.below na.below))
    go_wp2_with fail
    go_ret
    rw [HR.out]
    exact ⟨rfl, HI2.out.swap.drop⟩
  | true =>
    have HLV := Lib.hid hlv
    rw [hlv] at HL
    clear hlv
    refine wp_region_after (by kernel_rfl) (by kernel_rfl) ?_
    repeat (go_big_quiet_step ((go_at_call 73; exact quiet_after (HL.out _))))
    refine wpQuiet_nil ?_
    rintro _ ⟨na, rfl⟩
    have hI2 : In G w0 (Box p 99 #[.pointer (some ⟨sp, 0, none⟩), .map (some tb), .map (some pb)] :: SlotsA sp ls :: PtrMap tb (T.ks.map fun K => (K, T.pt K)) :: PlaceMap pb T.ps :: Box hb 46 (ints [s, g]) :: (l ++ T.ks.map (tblOf T))) na.w := HI.out.below na.below
    have HI2 := Lib.hid hI2
    generalize na.w = w2 at *
    clear c0 c1 HL HI hI2
    by_cases hkd : 0 ≤ kind ∧ kind < 8
    rotate_left
    · have HR : Hid (dropW ls f (s, g) kind = (f, 1)) := by unfold Hid dropW; rw [if_neg (by simp [HLV.out]), if_pos hkd]
      have HKD := Lib.hid (isKind_no kind hkd w2)
      clear hkd
      have HI3 := Lib.hid (In.shutWorld (l := Box hb 46 (ints [s, g]) :: l) HT.out HI2.out)
      go_wp2_with fail
      refine HKD.out.mono ?_
      rintro e w3 ⟨rfl, rfl⟩
      go_wp2_with fail
      go_ret
      rw [HR.out]
      exact ⟨rfl, HI3.out.swap.drop⟩
    have HKD := Lib.hid (isKind_yes kind hkd w2)
    obtain ⟨k, rfl⟩ : ∃ k : Nat, kind = k := ⟨kind.toNat, by omega⟩
    have hk8 : k < 8 := by omega
    have HR : Hid (dropW ls f (s, g) (k : Int) = if (beastOf f s).k.toNat.testBit k = false then (f, 5) else (updB f s (some (g, dropB (beastOf f s) k)), 0)) := by
      unfold Hid dropW; rw [if_neg (by simp [HLV.out]), if_neg (fun h => h hkd), Int.toNat_natCast]
    obtain ⟨K, i, hLi⟩ := HT.out.lies HK.out HLV.out
    obtain ⟨hKk, hKb⟩ := tbl_kind (In.pickT (X := Box p 99 #[.pointer (some ⟨sp, 0, none⟩), .map (some tb), .map (some pb)] :: SlotsA sp ls :: PtrMap tb (T.ks.map fun K => (K, T.pt K)) :: PlaceMap pb T.ps :: Box hb 46 (ints [s, g]) :: l) HI2.out hLi.mem)
    have HKB : Hid ((beastOf f s).k = K) := hKb _ (List.mem_of_getElem? hLi.at_)
    rw [HKB.out] at HR
    have HLI := Lib.hid hLi
    have HKK := Lib.hid hKk
    have hkI : (k : Int) < 8 := by omega
    go_wp2_with fail
    refine HKD.out.mono ?_
    rintro e w3 ⟨rfl, rfl⟩
    go_upto_region 5 with (fail)
    clear hLi hKk hKb hkd HKD
    have hI2 := HI2.out
    have hmap := hI2.fourth.mapAt
    have c0 : ∀ n : After w2, n.w.cell? ⟨p, 2, none⟩ = some (.map (some pb)) := fun n => (hI2.blk.after n.below).cell 2
    have c1 : ∀ n : After w2, n.w.cell? ⟨hb, 0, none⟩ = some (.int .i64 s) := fun n => (hI2.fifth.blk.after n.below).cell 0
    have hl1 : ∀ n : After w2, (Instr.lookup 97 (.map (some pb)) (.int .i64 s) false).run Tryz.prog n.w = .ok (.agg #[.int .i64 K, .int .i64 (i : Int)]) n.w := fun n => look_place hmap HLI.out.slot HLI.out.place n.below
    have hfd : ∀ W, (Instr.field 172 (.agg #[.int .i64 K, .int .i64 (i : Int)]) 0).run Tryz.prog W = .ok (.int .i64 K) W := fun W => by kernel_rfl
    have hK2 : ((K.toNat : Nat) : Int) = K := by have := HKK.out; omega
    have hbit := and_bit K.toNat k (by have := HKK.out; omega) hk8
    rw [hK2] at hbit
    have HK2 := Lib.hid hK2
    clear hK2 hI2 hmap
    cases htb : K.toNat.testBit k with
    | false =>
      rw [htb] at hbit HR
      have h1 : (bits BinOp.and IntKind.i64 (K / 2 ^ k) 1 == 0) = true := by rw [hbit]; rfl
      clear hbit htb
      refine wp_region_after (by kernel_rfl) (by kernel_rfl) ?_
      repeat (go_big_quiet_step (fail))
      refine wpQuiet_nil ?_
      rintro _ ⟨nb, rfl⟩
      have HI3 := Lib.hid (In.shutWorld (l := Box hb 46 (ints [s, g]) :: l) HT.out (HI2.out.below nb.below))
      clear c0 c1 hl1 HI2
      go_wp2_with fail
      go_ret
      rw [HR.out]
      exact ⟨rfl, HI3.out.swap.drop⟩
    | true =>
      rw [htb] at hbit HR
      have h1 : (bits BinOp.and IntKind.i64 (K / 2 ^ k) 1 == 0) = false := by rw [hbit]; rfl
      have HTB := Lib.hid htb
      clear hbit htb
      refine wp_region_after (by kernel_rfl) (by kernel_rfl) ?_
      repeat (go_big_quiet_step (fail))
      refine wpQuiet_nil ?_
      rintro _ ⟨nb, rfl⟩
      have hI4 := In.shutWorld (l := Box hb 46 (ints [s, g]) :: l) HT.out (HI2.out.below nb.below)
      generalize nb.w = w3 at *
      clear c0 c1 hl1 HI2 h1
      have s4 : row? w3 hb 0 2 = some (ints [s, g]) := hI4.swap.blk.row_all rfl
      have HLIFT := Lib.hid (lift_in hI4 s g (beastOf f s) (HK.out.get HLV.out))
      have hbl : (beastOf f s).list.length = 9 := by unfold Beast.list; rw [List.length_cons, HLI.out.ok.2]
      clear hI4
      go_wp2_with fail
      refine HLIFT.out.mono ?_
      rintro e w4 ⟨rfl, hI5⟩
      have HI5 := Lib.hid hI5
      clear hI5 HLIFT
      go_upto_region 8 with (fail)
      refine wp_abs (In G w0 (Box w4.heap.size 49 (ints (beastOf f s).list) :: WorldA p ls (updB f s none) :: Box hb 46 (ints [s, g]) :: l)) (HI5.out.struct 49 [0, 0, 0, 0, 0, 0, 0, 0, 0] _ hbl) ?_
      generalize w4.heap.size = bb
      intro w5 hI6
      have hbk : (beastOf f s).list = K :: (beastOf f s).v := by unfold Beast.list; rw [HKB.out]
      have q1 : w5.cell? ⟨bb, 0, none⟩ = some (.int .i64 K) := by rw [hI6.blk.cell 0, hbk]; rfl
      have q2 : w5.frozen? ⟨bb, 0, none⟩ = false := hI6.blk.frozen 0
      have hor := andNot_bit K.toNat k (by have := HKK.out; omega) hk8 HTB.out
      rw [HK2.out] at hor
      have hI7 := hI6.set 0 (.int .i64 ((K.toNat - 2 ^ k : Nat) : Int))
      rw [ints_set] at hI7
      have HBP : Hid ((dropB (beastOf f s) k).list = ((K.toNat - 2 ^ k : Nat) : Int) :: (beastOf f s).v.set k 0) := by unfold Hid dropB Beast.list; rw [HKB.out]
      generalize ((K.toNat - 2 ^ k : Nat) : Int) = KN at *
      have hset : (beastOf f s).list.set 0 KN = KN :: (beastOf f s).v := by rw [hbk]; rfl
      rw [hset] at hI7
      have HI7 := Lib.hid hI7
      clear hI6 hI7 hset hbk HI5
      go_region
      go_upto_region 9 with (fail)
      refine wp_abs (In G w0 (Box bb 49 (ints (KN :: (beastOf f s).v)) :: WorldA p ls (updB f s none) :: Box hb 46 (ints [s, g]) :: l)) HI7.out.drew ?_
      clear q1 q2 hor HI7 s4
      intro w6 hI8
      have q3 : w6.frozen? ⟨bb, 1 + k, none⟩ = false := hI8.blk.frozen (1 + k)
      have q4 : w6.cell? ⟨bb, 1 + k, none⟩ = some (.int .i64 ((beastOf f s).v.getD k 0)) := by
        have hk9 : 1 + k < (KN :: (beastOf f s).v).length := by rw [List.length_cons, HLI.out.ok.2]; omega
        rw [hI8.blk.cell (1 + k), ints_at hk9]
        simp [Nat.add_comm 1 k, List.getD_eq_getElem?_getD, HLI.out.ok.2, hk8]
      have hI9 := hI8.set (1 + k) (.int .i64 0)
      rw [ints_set, Nat.add_comm 1 k, List.set_cons_succ, ← HBP.out, Nat.add_comm k 1] at hI9
      have hpl : (dropB (beastOf f s) k).list.length = 9 := by rw [HBP.out, List.length_cons, List.length_set, HLI.out.ok.2]
      have HI9 := Lib.hid hI9
      clear hI8 hI9
      have hk1 : (0 : Int) ≤ (k : Int) := by omega
      go_upto_region 10 with (fail)
      refine wp_abs (In G w0 (Box bb 49 (ints (dropB (beastOf f s) k).list) :: WorldA p ls (updB f s none) :: Box hb 46 (ints [s, g]) :: l)) HI9.out ?_
      clear q3 q4 HI9
      intro w7 hI10
      have q5 : row? w7 bb 0 9 = some (ints (dropB (beastOf f s) k).list) := hI10.blk.row_all hpl
      have q6 : row? w7 hb 0 2 = some (ints [s, g]) := hI10.third.blk.row_all rfl
      have hpe := drop_err HLI.out.ok.1 HLI.out.ok.2 hk8 (by rw [HKB.out]; exact HTB.out)
      have HLAY := Lib.hid (lay_in hI10.swap s g (dropB (beastOf f s) k) (by unfold updB; rw [if_pos rfl]) ⟨hpe.1, hpe.2, HLI.out.slot⟩)
      rw [upd_twice] at HLAY
      clear hI10 hpe
      go_wp2_with fail
      refine HLAY.out.mono ?_
      rintro e w8 ⟨rfl, hI11⟩
      have HI11 := Lib.hid hI11
      clear hI11 HLAY q5 q6
      go_wp2_with fail
      go_ret
      rw [HR.out]
      exact ⟨rfl, HI11.out.swap.drop.swap.drop⟩
end

end Go.Proofs.YtpgcghnlepnoiaaGreatDoor
