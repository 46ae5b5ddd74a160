/-
  Several texts in one (merged by a program of mine): ZooLoad, ZooLoadAny, ZooAll, ZooKept, ZooUse, ZooMay.
-/
import Derived.Test.YtpgcghnlepnoiaaGreatDoorTP32
set_option linter.unusedVariables false
set_option linter.unusedSimpArgs false
set_option linter.unusedSectionVars false
/-
  The contract of zoo.Load, at a state of a zoo.
-/
namespace Go.Proofs.YtpgcghnlepnoiaaGreatDoor
open Go.RowKit

/-! ### the plain law: the bonds one by one -/
def bondTo (z : ZS) (k : Nat) : ZS := ⟨z.ls, z.f, z.B.take k⟩
theorem sub_get {m m' : Fam} (hn : (mkeys m).Nodup) (hs : m'.Sublist m) {c p : Hd} (h : mget m' c = some p) : mget m c = some p :=
  mget_of_mem hn (hs.mem (mget_mem h))
theorem bondTo_ok {z : ZS} (h : ZOk z) (k : Nat) : ZOk (bondTo z k) := by
  have hs : (z.B.take k).Sublist z.B := List.take_sublist k z.B
  have hn : (mkeys (z.B.take k)).Nodup := h.fam.nodup.sublist (hs.map _)
  refine ⟨h.w, ⟨hn, h.fam.acyc.sub fun c p e => sub_get h.fam.nodup hs e⟩, ?_, fun b hb => h.lv b (hs.mem hb)⟩
  have hsr := ksort_sorted (fun b : Hd × Hd => b.1) z.B
  change List.Pairwise _ (bondsOf z.B) at hsr
  rw [h.srt] at hsr
  exact (ksort_of_sorted (fun b : Hd × Hd => b.1) (bond_inj (m := z.B.take k) hn) (List.Perm.refl _) (hsr.sublist hs)).symm
theorem bondTo_none {z : ZS} (h : ZOk z) {k : Nat} (hk : k < z.B.length) : mget (z.B.take k) z.B[k].1 = none := by
  cases e : mget (z.B.take k) z.B[k].1 with
  | none => rfl
  | some q =>
    exfalso
    have h1 := h.fam.nodup
    rw [← List.take_append_drop k z.B] at h1
    unfold mkeys at h1
    rw [List.map_append, List.nodup_append] at h1
    refine h1.2.2 z.B[k].1 (List.mem_map.2 ⟨_, mget_mem e, rfl⟩) z.B[k].1 (List.mem_map.2 ⟨z.B[k], ?_, rfl⟩) rfl
    rw [List.drop_eq_getElem_cons hk]
    exact List.mem_cons_self
theorem bondTo_adopt {z : ZS} (h : ZOk z) {k : Nat} (hk : k < z.B.length) : bondsOf (adoptR (z.B.take k) z.B[k].1 z.B[k].2).1 = z.B.take (k + 1) ∧ (adoptR (z.B.take k) z.B[k].1 z.B[k].2).2 = 0 := by
  have hg : mget z.B z.B[k].1 = some z.B[k].2 := mget_of_mem h.fam.nodup (List.getElem_mem hk)
  have hs : (z.B.take k).Sublist z.B := List.take_sublist k z.B
  have hno : ¬ (z.B[k].1 = z.B[k].2 ∨ Up (z.B.take k) z.B[k].2 z.B[k].1) := by
    rintro (e | e)
    · exact Up.irrefl h.fam.acyc (a := z.B[k].1) (.one (by rw [← e] at hg; exact hg))
    · exact Up.irrefl h.fam.acyc (.more hg (e.mono fun c p e => sub_get h.fam.nodup hs e))
  have hno2 := bondTo_none h hk
  unfold adoptR
  rw [if_neg hno]
  refine ⟨?_, rfl⟩
  have ok := bondTo_ok h k
  have ok1 := bondTo_ok h (k + 1)
  have e2 : bondsOf (z.B.take (k + 1)) = z.B.take (k + 1) := ok1.srt
  rw [← e2]
  have h5 := ok.fam.adopt z.B[k].1 z.B[k].2
  change FamOk (adoptR (z.B.take k) _ _).1 at h5
  unfold adoptR at h5
  rw [if_neg hno] at h5
  refine bonds_congr h5.nodup ok1.fam.nodup fun x => ?_
  have e3 : mput (z.B.take k) z.B[k].1 z.B[k].2 = z.B.take (k + 1) := by
    rw [List.take_succ_eq_append_getElem hk]
    unfold mput
    rw [if_neg]
    intro ha
    obtain ⟨q, hq, e⟩ := List.any_eq_true.1 ha
    have := mget_of_mem ok.fam.nodup (m := z.B.take k) (x := q.1) (v := q.2) hq
    rw [of_decide_eq_true e, hno2] at this
    cases this
  rw [e3]
theorem row_put_new {w : World} {g o n : Nat} {x : Array Value} (t : TypeId) (zs xs : List Int) (h : row? w g o n = some x) : row? (putRow (w.alloc (.cells (ints zs) t)) w.heap.size 0 xs) g o n = some x := row_after (below_new_put w t zs xs) h
section
variable {G : Nat → Prop} {w0 w : World} {l : List Assn} {p : Nat} {z : ZS} {gv rv bv : Value}
theorem rowB_at {w : World} {v : Value} {hs : List (Hd × Hd)} (h : w.ownsRow 0 56 4 v hs.length (hs.flatMap bC)) : ∃ A c, v = .slice A hs.length c ∧ hs.length ≤ c ∧ c ≤ maxLen ∧ ∀ k, (hk : k < hs.length) → ∃ g, A = some ⟨g, 0, none⟩ ∧
    row? w g (k * 4) 4 = some (ints [hs[k].1.1, hs[k].1.2, hs[k].2.1, hs[k].2.2]) := by
  obtain ⟨A, c, rfl, hc1, hc2, hA⟩ := own_form h
  refine ⟨A, c, rfl, hc1, hc2, fun k hk => ?_⟩
  obtain ⟨g, rfl⟩ := hA (by omega)
  have hr := own_row h hk
  rw [flat_at (fun x => (rfl : (bC x).length = 4)) hs k hk] at hr
  exact ⟨g, rfl, hr⟩
set_option maxHeartbeats 4000000 in
set_option maxRecDepth 100000 in
theorem zload_in (h : In G w0 (IntsA gv (gensL z.ls) :: RowsA rv z.rows :: RowB bv z.B :: l) w) (hk : ZOk z) :
    Calls Tryz.prog 15 #[.agg #[gv, rv, bv]] w fun e w' => ∃ p, e = .returned (.tuple #[ptr p, .int .i64 0]) ∧ In G w0 (ZooA p z :: IntsA gv (gensL z.ls) :: RowsA rv z.rows :: RowB bv z.B :: l) w' := by
  have H0 := Lib.hid h
  have HK := Lib.hid hk
  obtain ⟨Ab, cb, rfl, hcb1, hcb2, _⟩ := rowB_at h.third.rowAt
  clear h hk
  go_enter Tryz.func15, Tryz.ntmps15
  go_upto_region 1 with (fail)
  refine wp_abs (In G w0 (Box w.heap.size 26 #[gv, rv, .slice Ab z.B.length cb] :: IntsA gv (gensL z.ls) :: RowsA rv z.rows :: RowB (.slice Ab z.B.length cb) z.B :: l)) (H0.out.alloc 26 #[gv, rv, .slice Ab z.B.length cb]) ?_
  generalize w.heap.size = sb
  intro w1 hI1
  have c0 : w1.cell? ⟨sb, 0, none⟩ = some gv := hI1.blk.cell 0
  have c1 : w1.cell? ⟨sb, 1, none⟩ = some rv := hI1.blk.cell 1
  have HI1 : Hid (In G w0 (IntsA gv (gensL z.ls) :: RowsA rv z.rows :: RowB (.slice Ab z.B.length cb) z.B :: Box sb 26 #[gv, rv, .slice Ab z.B.length cb] :: l) w1) := hI1.to4
  clear hI1 H0
  go_wp2_with fail
  refine (wload_in HI1.out HK.out.w).mono ?_
  rintro e w2 ⟨wp, rfl, hI2⟩
  have HI2 := Lib.hid hI2
  clear hI2 HI1 c0 c1
  go_wp2_with fail
  refine (fnew_in HI2.out).mono ?_
  rintro e w3 ⟨fp, rfl, hI3⟩
  go_upto_region 5 with (fail)
  refine wp_abs (In G w0 (ZooA w3.heap.size (bondTo z 0) :: IntsA gv (gensL z.ls) :: RowsA rv z.rows :: RowB (.slice Ab z.B.length cb) z.B :: Box sb 26 #[gv, rv, .slice Ab z.B.length cb] :: l)) (In.shutZoo (z := bondTo z 0) (m := []) bonds_nil ((hI3.alloc 87 #[ptr wp, ptr fp]).perm ((List.Perm.swap _ _ _).cons _))) ?_
  generalize w3.heap.size = p
  clear hI3 HI2
  intro w4 hI4
  have c2 : w4.cell? ⟨sb, 2, none⟩ = some (.slice Ab z.B.length cb) := (hI4.nth 4 (by simp)).blk.cell 2
  have HI4 := Lib.hid hI4
  clear hI4
  go_wp2_with fail
  go_loopw [31] (fun i w' => ∃ k : Nat, k ≤ z.B.length ∧ i = .int .i64 k ∧ In G w0 (ZooA p (bondTo z k) :: IntsA gv (gensL z.ls) :: RowsA rv z.rows :: RowB (.slice Ab z.B.length cb) z.B :: Box sb 26 #[gv, rv, .slice Ab z.B.length cb] :: l) w') (fun i _ => z.B.length - (intOf i).toNat)
  case atStart => exact ⟨0, Nat.zero_le _, rfl, HI4.out⟩
  case round =>
    clear HI4 c2
    obtain ⟨k, hk, rfl, hI⟩ := hrel
    by_cases hlt : k < z.B.length
    · have hki : (k : Int) < z.B.length := by omega
      obtain ⟨A', c', e0, _, hkc, hrow⟩ := rowB_at hI.fourth.rowAt
      injection e0 with e1 e2 e3
      subst e1; subst e3
      obtain ⟨g, rfl, q1⟩ := hrow k hlt
      have HLV := Lib.hid (HK.out.lv z.B[k] (List.getElem_mem hlt))
      have HNO := Lib.hid (bondTo_none HK.out hlt)
      have HAD := Lib.hid (bondTo_adopt HK.out hlt)
      have hkc' : (z.B.length : Int) ≤ cb := by omega
      have HOK := Lib.hid (bondTo_ok HK.out k)
      have HI := Lib.hid hI
      clear hrow e2 hI
      generalize z.B[k] = b at *
      obtain ⟨⟨x1, x2⟩, ⟨y1, y2⟩⟩ := b
      go_upto_region 8 with (fail)
      refine wp_abs (In G w0 (ZooA p (bondTo z k) :: Box wr.heap.size 56 (ints [x1, x2, y1, y2]) :: IntsA gv (gensL z.ls) :: RowsA rv z.rows :: RowB (.slice (some ⟨g, 0, none⟩) z.B.length cb) z.B :: Box sb 26 #[gv, rv, .slice (some ⟨g, 0, none⟩) z.B.length cb] :: l)) (HI.out.struct 56 [0, 0, 0, 0] [x1, x2, y1, y2] rfl).swap ?_
      generalize wr.heap.size = bb
      generalize hL : IntsA gv (gensL z.ls) :: RowsA rv z.rows :: RowB (.slice (some ⟨g, 0, none⟩) z.B.length cb) z.B :: Box sb 26 #[gv, rv, .slice (some ⟨g, 0, none⟩) z.B.length cb] :: l = L at *
      intro w5 hI5
      have q2 : row? w5 bb 0 2 = some (ints [x1, x2]) := hI5.swap.blk.row_ints 0 2 (by simp)
      have q3 : row? w5 bb 2 2 = some (ints [y1, y2]) := hI5.swap.blk.row_ints 2 2 (by simp)
      have HI5 := Lib.hid hI5
      have hbs : ∀ W, (Instr.buildSlice 119 2 #[(0, .agg (ints [x1, x2])), (1, .agg (ints [y1, y2]))]).run Tryz.prog W = .ok (.slice (some ⟨W.heap.size, 0, none⟩) 2 2) (W.alloc (.cells (ints [x1, x2, y1, y2]) 46)) := fun W => by kernel_rfl
      have HB : Hid (In G w0 (ZooA p (bondTo z k) :: RowH (.slice (some ⟨w5.heap.size, 0, none⟩) 2 2) [(x1, x2), (y1, y2)] :: Box bb 56 (ints [x1, x2, y1, y2]) :: L) (w5.alloc (.cells (ints [x1, x2, y1, y2]) 46))) := (HI5.out.newLit 46 2 2 [.int .i64 x1, .int .i64 x2, .int .i64 y1, .int .i64 y2] rfl (by decide)).swap
      clear hI5 q1 HI
      go_wp2_with fail
      refine (zlive_in HB.out (by simp)).mono ?_
      rintro e w6 ⟨rfl, hI6⟩
      have hlv : liveZ (bondTo z k) [(x1, x2), (y1, y2)] = true := by
        have h1 := HLV.out
        unfold liveZ
        simp only [List.all_cons, List.all_nil, Bool.and_true]
        exact Bool.and_eq_true_iff.2 h1
      rw [if_pos hlv]
      have hI6 := hI6.swap.drop
      obtain ⟨wp, fp, m, hm, hf, ha, hI7⟩ := hI6.openZoo
      have q2 : row? w6 bb 0 2 = some (ints [x1, x2]) := hI6.swap.blk.row_ints 0 2 (by simp)
      have q3 : row? w6 bb 2 2 = some (ints [y1, y2]) := hI6.swap.blk.row_ints 2 2 (by simp)
      have c1 : w6.cell? ⟨p, 1, none⟩ = some (ptr fp) := hI7.blk.cell 1
      obtain ⟨fb, hsee⟩ := (In.third hI7).seeFam
      have HPAR : Hid (∀ W, Below w6.heap.size w6 W → Calls Tryz.prog 35 #[ptr fp, hdV (x1, x2)] W fun e w' => e = .returned (.tuple #[.agg (ints [0, 0]), .bool false]) ∧ Below W.heap.size W w') := fun W hW => by
        have h1 := fparent_any (x1, x2) W (hsee.after hW)
        have h2 : parentR m (x1, x2) = ((0, 0), false) := by
          have h3 : mget (bondTo z k).B (x1, x2) = none := HNO.out
          unfold parentR
          rw [ha, h3]
          rfl
        rw [h2] at h1
        exact h1
      have HI6 := Lib.hid hI6
      clear hI6 hI7 HB HI5 hlv hsee
      have HD : Hid (Below w6.heap.size w6 w6.drew) := (Below.refl _ _).drew
      have HDA : Hid (∀ ob, Below w6.heap.size w6 (w6.alloc ob).drew) := fun ob => ((Below.refl _ _).alloc (Nat.le_refl _) ob).drew
      have HBN : Hid (p < w6.heap.size ∧ bb < w6.heap.size) := by
        obtain ⟨wp, fp, m, _, _, _, hI7⟩ := HI6.out.openZoo
        exact ⟨hI7.blk.lt, HI6.out.swap.blk.lt⟩
      have HIA : Hid (∀ w10, Below (w6.alloc (.cells #[.int .i64 0, .int .i64 0] 46)).drew.heap.size (w6.alloc (.cells #[.int .i64 0, .int .i64 0] 46)).drew w10 → In G w0 (Box w6.heap.size 46 (ints [0, 0]) :: ZooA p (bondTo z k) :: Box bb 56 (ints [x1, x2, y1, y2]) :: L) w10) := fun w10 hb => (HI6.out.alloc 46 (ints [0, 0])).drew.below hb
      clear q3 ha hm hf
      go_upto_region 11 with (fail)
      go_region_held3 (fun W => W.cell? ⟨p, 1, none⟩ = some (ptr fp) ∧ row? W bb 0 2 = some (ints [x1, x2]))
        (refine ⟨?_, ?_⟩ <;> (first | assumption | (refine cell_new_alloc _ ?_; assumption) | (refine row_alloc _ ?_; assumption) | (refine cell_put_new _ [0, 0] _ ?_; assumption) | (refine row_put_new _ [0, 0] _ ?_; assumption) | (refine cell_far (by have := HBN.out; omega) ?_; assumption) | (refine row_far (by have := HBN.out; omega) ?_; assumption)))
        (first
          | (go_at_call 35; refine (HPAR.out _ HD.out).mono ?_; rintro e w10 ⟨rfl, hb10⟩; have s4 := cell_after (w := w6.drew) hb10 c1; have s5 := row_after (w := w6.drew) hb10 q2; have HI7 := Lib.hid (HI6.out.drew.below hb10); clear hb10)
          | (go_at_call 35; refine (HPAR.out _ (HDA.out _)).mono ?_; rintro e w10 ⟨rfl, hb10⟩; have s4 := cell_after hb10 (cell_new_alloc (w := w6) _ c1); have s5 := row_after hb10 (row_alloc (w := w6) _ q2); have HI7 := Lib.hid (HIA.out _ hb10); have f3 := HI7.out.blk.fits 0 2 (by rw [ints_size]; simp); clear hb10))
      all_goals
        (first
          | (obtain ⟨W9, hW9⟩ : ∃ W9, putRow (w10.alloc (.cells #[Value.int .i64 0, Value.int .i64 0] 46)) w10.heap.size 0 [0, 0] = W9 := ⟨_, rfl⟩; rw [hW9]; have hI8 : In G w0 (ZooA p (bondTo z k) :: Box bb 56 (ints [x1, x2, y1, y2]) :: L) W9 := (by rw [← hW9]; exact (HI7.out.struct 46 [0, 0] [0, 0] rfl).drop))
          | (obtain ⟨W9, hW9⟩ : ∃ W9, putRow w10 w6.heap.size 0 [0, 0] = W9 := ⟨_, rfl⟩; rw [hW9]; have hI8 : In G w0 (ZooA p (bondTo z k) :: Box bb 56 (ints [x1, x2, y1, y2]) :: L) W9 := (by rw [← hW9]; exact (HI7.out.put_all [0, 0] rfl).drop)))
        clear HI7 HI6 HIA hW9
        obtain ⟨wp2, fp2, m2, hm2, hf2, ha2, hI9⟩ := hI8.openZoo
        have k2 : row? W9 bb 0 2 = some (ints [x1, x2]) := hI8.swap.blk.row_ints 0 2 (by simp)
        have k3 : row? W9 bb 2 2 = some (ints [y1, y2]) := hI8.swap.blk.row_ints 2 2 (by simp)
        have k1 : W9.cell? ⟨p, 1, none⟩ = some (ptr fp2) := hI9.blk.cell 1
        have HA2 := Lib.hid (ha2.adopt (x1, x2) (y1, y2))
        have HBE : Hid (bondsOf (adoptR m2 (x1, x2) (y1, y2)).1 = z.B.take (k + 1) ∧ (adoptR m2 (x1, x2) (y1, y2)).2 = 0) := by
          have h1 := HAD.out
          exact ⟨(bonds_congr (hf2.adopt _ _).nodup (HOK.out.fam.adopt _ _).nodup HA2.out.1).trans h1.1, HA2.out.2.trans h1.2⟩
        have HI9 := Lib.hid (In.third hI9)
        clear hI8 hI9 hm2 hf2 ha2
        go_upto_region 14 with (fail)
        go_still_tail 8, (by kernel_rfl)
        change wpList _ _ _ _ _ W9.drew
        have HI10 := Lib.hid HI9.out.drew
        clear HI9 k1 k2 k3
        generalize W9.drew = w11 at *
        go_wp2_with fail
        refine (fadopt_in HI10.out (x1, x2) (y1, y2)).mono ?_
        rintro e w12 ⟨rfl, hI11⟩
        rw [HBE.out.2]
        have hI12 : In G w0 (ZooA p (bondTo z (k + 1)) :: Box bb 56 (ints [x1, x2, y1, y2]) :: L) w12 := In.shutZoo (z := bondTo z (k + 1)) HBE.out.1 hI11.third.third
        have HI12 := Lib.hid (hI12.swap.drop)
        clear hI11 hI12 HI10 hbs
        have hB60 := HK.out.len
        go_wp2_with fail
        go_roundw
        case rel => exact ⟨k + 1, by omega, by go_num, by rw [hL]; exact HI12.out⟩
        case measure => simp [intOf]; omega
    · have : k = z.B.length := by omega
      subst this
      have HF : Hid (bondTo z z.B.length = z) := by unfold Hid bondTo; rw [List.take_length]
      rw [HF.out] at hI
      have HI := Lib.hid hI
      clear hI
      go_wp2_with fail
      go_ret2
      exact ⟨p, rfl, (HI.out.reorder 5 [4, 0, 1, 2, 3] rfl (by simp)).drop⟩
end

end Go.Proofs.YtpgcghnlepnoiaaGreatDoor

/-
  The contract of zoo.Load at whatever state.
-/
namespace Go.Proofs.YtpgcghnlepnoiaaGreatDoor
open Go.RowKit

def bondE (b : Hd × Hd) : List Int := [b.1.1, b.1.2, b.2.1, b.2.2]
/-- bonds that are read -/
def BondsRd (w : World) (B : Nat) (A : Option Addr) (bs : List (Hd × Hd)) : Prop := Chunks w B 4 A (bs.map bondE)
theorem BondsRd.at_ {w : World} {B : Nat} {A : Option Addr} {bs : List (Hd × Hd)} (h : BondsRd w B A bs) {k : Nat} (hk : k < bs.length) :
    ∃ b o, A = some ⟨b, o, none⟩ ∧ b < B ∧ row? w b (o + k * 4) 4 = some (ints [bs[k].1.1, bs[k].1.2, bs[k].2.1, bs[k].2.2]) := by
  obtain ⟨b, o, e, hb, hr⟩ := Chunks.at_ h (k := k) (by simpa using hk)
  exact ⟨b, o, e, hb, by simpa [bondE] using hr⟩
def ZLoadEnd (w : World) (x : Option ZS × Int) (e : Ending) (w' : World) : Prop :=
  Below w.heap.size w w' ∧ match x with
    | (none, n) => e = .returned (.tuple #[.pointer none, .int .i64 n])
    | (some z, n) => ∃ p, e = .returned (.tuple #[ptr p, .int .i64 n]) ∧ (ZooA p z).at_ w' (fun k => w.heap.size ≤ k)
theorem famOk_bonds {m : Fam} (hf : FamOk m) : FamOk (bondsOf m) := ⟨bonds_nodup hf.nodup, (alike_bonds hf.nodup).symm.acyc hf.acyc⟩
theorem adopt_err (m : Fam) (c p : Hd) : (adoptR m c p).2 = 0 ∨ (adoptR m c p).2 = 8 := by
  unfold adoptR
  split
  · exact Or.inr rfl
  · exact Or.inl rfl
theorem loadWR_none {gens : List Int} {rows : List RowM} {n : Int} (h : loadWR gens rows = (none, n)) : n = 1 ∨ n = 2 ∨ n = 4 ∨ n = 5 ∨ n = 6 ∨ n = 7 := by
  have key : ∀ (ls : List (Int × Bool)) (l : List RowM) (f : BF), (rowsLd ls f l).2 = 0 ∨ (rowsLd ls f l).2 = 7 ∨ (rowsLd ls f l).2 = 1 ∨ (rowsLd ls f l).2 = 4 := by
    intro ls l
    induction l with
    | nil => intro f; exact Or.inl rfl
    | cons x l ih =>
      intro f
      unfold rowsLd
      split
      · exact Or.inr (Or.inl rfl)
      · split
        · rename_i hb
          exact Or.inr (Or.inr (beastErr_val _ hb))
        · exact ih _
  unfold loadWR at h
  split at h
  · injection h with _ h; omega
  · split at h
    · rename_i hl
      injection h with _ h
      have := loadR_none hl
      omega
    · split at h
      · injection h with h; cases h
      · rename_i ls _ _ hne
        injection h with _ h
        have := key ls rows (fun _ => none)
        omega
theorem loadWR_some {gens : List Int} {rows : List RowM} {x : List (Int × Bool) × BF} {n : Int} (h : loadWR gens rows = (some x, n)) : n = 0 := by
  unfold loadWR at h
  split at h
  · injection h with h; cases h
  · split at h
    · injection h with h; cases h
    · split at h
      · injection h with _ h; exact h.symm
      · injection h with h; cases h
set_option maxHeartbeats 4000000 in
set_option maxRecDepth 100000 in
theorem zloadA_any (gA rA bA : Option Addr) (gc rc bc : Nat) (s : StM) (w : World) (hg : ReadsI w w.heap.size gA s.gens.length s.gens) (hr : RowsRd w w.heap.size rA s.rows) (hb : BondsRd w w.heap.size bA s.bonds)
    (hgl : s.gens.length ≤ maxLen) (hrl : s.rows.length ≤ maxLen) (hbl : s.bonds.length ≤ bc ∧ bc ≤ maxLen) :
    Calls Tryz.prog 15 #[.agg #[.slice gA s.gens.length gc, .slice rA s.rows.length rc, .slice bA s.bonds.length bc]] w (ZLoadEnd w (loadZ s)) := by
  obtain ⟨gens, rows, bs⟩ := s
  simp only at hg hr hb hgl hrl hbl ⊢
  have HG := Lib.hid hg
  have HR := Lib.hid hr
  have HB := Lib.hid hb
  have hbi : (bs.length : Int) ≤ 9223372036854775807 := by have := hbl.1; have := hbl.2; unfold maxLen at this; omega
  have hbc : (bs.length : Int) ≤ bc := by omega
  clear hg hr hb
  go_enter Tryz.func15, Tryz.ntmps15
  go_upto_region 1 with (fail)
  refine wp_abs (In (fun _ => False) w (Box w.heap.size 26 #[.slice gA gens.length gc, .slice rA rows.length rc, .slice bA bs.length bc] :: [])) ((In.nil w _).alloc 26 #[.slice gA gens.length gc, .slice rA rows.length rc, .slice bA bs.length bc]) ?_
  generalize w.heap.size = sb
  intro w1 hI1
  have c0 : w1.cell? ⟨sb, 0, none⟩ = some (.slice gA gens.length gc) := hI1.blk.cell 0
  have c1 : w1.cell? ⟨sb, 1, none⟩ = some (.slice rA rows.length rc) := hI1.blk.cell 1
  have HI1 := Lib.hid hI1
  have HW := Lib.hid (wloadA_any gA rA gc rc gens rows w1 ((HG.out.below hI1.below0).more hI1.size) ((HR.out.below hI1.below0).more hI1.size) hgl hrl)
  clear hI1
  generalize hLD : loadWR gens rows = x at *
  obtain ⟨ox, n⟩ := x
  cases ox with
  | none =>
    have hn := loadWR_none hLD
    have HX : Hid (loadZ ⟨gens, rows, bs⟩ = (none, n)) := by unfold Hid loadZ; simp only [hLD]
    clear hLD
    go_wp2_with fail
    refine HW.out.mono ?_
    rintro e w2 ⟨hb2, rfl⟩
    have HB2 := Lib.hid (HI1.out.below hb2).below0
    clear hb2 HW c0 c1
    rcases hn with rfl | rfl | rfl | rfl | rfl | rfl
    all_goals
      go_wp2_with fail
      go_ret2
      rw [HX.out]
      exact ⟨HB2.out, rfl⟩
  | some x =>
  obtain ⟨ls, f⟩ := x
  obtain rfl := loadWR_some hLD
  have HX : Hid (loadZ ⟨gens, rows, bs⟩ = match bondsZ (fun h => liveB ls h.1 h.2) [] bs with
    | (none, n) => (none, n)
    | (some B, _) => (some ⟨ls, f, B⟩, 0)) := by unfold Hid loadZ; simp only [hLD]; rfl
  clear hLD
  go_wp2_with fail
  refine HW.out.mono ?_
  rintro e w2 ⟨hb2, wp, rfl, hw2⟩
  have HI2 : Hid (In (fun _ => False) w (WorldA wp ls f :: Box sb 26 #[.slice gA gens.length gc, .slice rA rows.length rc, .slice bA bs.length bc] :: []) w2) := HI1.out.new (A := WorldA wp ls f) hb2 hw2
  clear hb2 hw2 HW HI1 c0 c1
  go_wp2_with fail
  refine (fnew_in HI2.out).mono ?_
  rintro e w3 ⟨fp, rfl, hI3⟩
  go_upto_region 5 with (fail)
  refine wp_abs (In (fun _ => False) w (ZooA w3.heap.size ⟨ls, f, []⟩ :: Box sb 26 #[.slice gA gens.length gc, .slice rA rows.length rc, .slice bA bs.length bc] :: [])) (In.shutZoo (z := ⟨ls, f, []⟩) (m := []) bonds_nil ((hI3.alloc 87 #[ptr wp, ptr fp]).perm ((List.Perm.swap _ _ _).cons _))) ?_
  generalize w3.heap.size = p
  clear hI3 HI2
  intro w4 hI4
  have c2 : w4.cell? ⟨sb, 2, none⟩ = some (.slice bA bs.length bc) := (hI4.nth 1 (by simp)).blk.cell 2
  have HI4 := Lib.hid hI4
  clear hI4
  go_wp2_with fail
  go_loopw [31] (fun i w' => ∃ k : Nat, k ≤ bs.length ∧ i = .int .i64 k ∧ ∃ B m, bondsZ (fun h => liveB ls h.1 h.2) [] (bs.take k) = (some B, m) ∧ In (fun _ => False) w (ZooA p ⟨ls, f, B⟩ :: Box sb 26 #[.slice gA gens.length gc, .slice rA rows.length rc, .slice bA bs.length bc] :: []) w') (fun i _ => bs.length - (intOf i).toNat)
  case atStart => exact ⟨0, Nat.zero_le _, rfl, [], 0, rfl, HI4.out⟩
  case round =>
    clear HI4 c2
    obtain ⟨k, hk, rfl, B, mm, hE, hI⟩ := hrel
    by_cases hlt : k < bs.length
    · have hki : (k : Int) < bs.length := by omega
      obtain ⟨g, o, rfl, hgb, q1⟩ := BondsRd.at_ (HB.out.below hI.below0) hlt
      have HERR : Hid (∀ n, bondsZ (fun h => liveB ls h.1 h.2) B [bs[k]] = (none, n) → loadZ ⟨gens, rows, bs⟩ = (none, n)) := fun n hn => by
        have h1 := HX.out
        rw [bondsZ_err_of hlt hE hn] at h1
        exact h1
      have HNX : Hid (bondsZ (fun h => liveB ls h.1 h.2) [] (bs.take (k + 1)) = bondsZ (fun h => liveB ls h.1 h.2) B [bs[k]]) := by
        unfold Hid
        rw [List.take_succ_eq_append_getElem hlt]
        exact bondsZ_snoc _ _ _ _ _ hE
      have HI := Lib.hid hI
      clear hI hE
      generalize bs[k] = b at *
      obtain ⟨⟨x1, x2⟩, ⟨y1, y2⟩⟩ := b
      have HST : Hid (bondsZ (fun h => liveB ls h.1 h.2) B [((x1, x2), (y1, y2))] = if ¬ (liveB ls x1 x2 = true ∧ liveB ls y1 y2 = true) then (none, 7) else if (mget B (x1, x2)).isSome then (none, 6)
        else if (adoptR B (x1, x2) (y1, y2)).2 ≠ 0 then (none, (adoptR B (x1, x2) (y1, y2)).2) else (some (bondsOf (adoptR B (x1, x2) (y1, y2)).1), 0)) := rfl
      go_upto_region 8 with (fail)
      refine wp_abs (In (fun _ => False) w (ZooA p ⟨ls, f, B⟩ :: Box wr.heap.size 56 (ints [x1, x2, y1, y2]) :: Box sb 26 #[.slice gA gens.length gc, .slice rA rows.length rc, .slice (some ⟨g, o, none⟩) bs.length bc] :: [])) (HI.out.struct 56 [0, 0, 0, 0] [x1, x2, y1, y2] rfl).swap ?_
      generalize wr.heap.size = bb
      generalize hL : Box sb 26 #[.slice gA gens.length gc, .slice rA rows.length rc, .slice (some ⟨g, o, none⟩) bs.length bc] :: [] = L at *
      intro w5 hI5
      have q2 : row? w5 bb 0 2 = some (ints [x1, x2]) := hI5.swap.blk.row_ints 0 2 (by simp)
      have q3 : row? w5 bb 2 2 = some (ints [y1, y2]) := hI5.swap.blk.row_ints 2 2 (by simp)
      have HI5 := Lib.hid hI5
      have hbs : ∀ W, (Instr.buildSlice 119 2 #[(0, .agg (ints [x1, x2])), (1, .agg (ints [y1, y2]))]).run Tryz.prog W = .ok (.slice (some ⟨W.heap.size, 0, none⟩) 2 2) (W.alloc (.cells (ints [x1, x2, y1, y2]) 46)) := fun W => by kernel_rfl
      have HBL : Hid (In (fun _ => False) w (ZooA p ⟨ls, f, B⟩ :: RowH (.slice (some ⟨w5.heap.size, 0, none⟩) 2 2) [(x1, x2), (y1, y2)] :: Box bb 56 (ints [x1, x2, y1, y2]) :: L) (w5.alloc (.cells (ints [x1, x2, y1, y2]) 46))) := (HI5.out.newLit 46 2 2 [.int .i64 x1, .int .i64 x2, .int .i64 y1, .int .i64 y2] rfl (by decide)).swap
      clear hI5 q1 HI
      have hlvq : liveZ ⟨ls, f, B⟩ [(x1, x2), (y1, y2)] = (liveB ls x1 x2 && liveB ls y1 y2) := by
        unfold liveZ
        simp only [List.all_cons, List.all_nil, Bool.and_true]
        rfl
      go_wp2_with fail
      refine (zlive_in HBL.out (by simp)).mono ?_
      rintro e w6 ⟨rfl, hI6⟩
      rw [hlvq]
      cases hlv : (liveB ls x1 x2 && liveB ls y1 y2) with
      | false =>
        have HXE := Lib.hid (HERR.out 7 (by rw [HST.out, if_pos]; rw [← Bool.and_eq_true, hlv]; simp))
        have HB6 := Lib.hid hI6.below0
        clear hlvq hlv HERR HST HNX hI6 HBL HI5 hbs
        rw [if_neg (by simp)]
        go_wp2_with fail
        go_ret2
        rw [HXE.out]
        exact ⟨HB6.out, rfl⟩
      | true =>
      rw [if_pos rfl]
      have HLV : Hid (liveB ls x1 x2 = true ∧ liveB ls y1 y2 = true) := Bool.and_eq_true_iff.1 hlv
      have hI6 := hI6.swap.drop
      obtain ⟨wp, fp, m, hm, hf, ha, hI7⟩ := hI6.openZoo
      have hfB : FamOk B := by
        have h1 := famOk_bonds hf
        rw [hm] at h1
        exact h1
      have q2 : row? w6 bb 0 2 = some (ints [x1, x2]) := hI6.swap.blk.row_ints 0 2 (by simp)
      have q3 : row? w6 bb 2 2 = some (ints [y1, y2]) := hI6.swap.blk.row_ints 2 2 (by simp)
      have c1 : w6.cell? ⟨p, 1, none⟩ = some (ptr fp) := hI7.blk.cell 1
      obtain ⟨fb, hsee⟩ := (In.third hI7).seeFam
      obtain ⟨pa, pb, pt, hpar⟩ : ∃ pa pb pt, parentR m (x1, x2) = ((pa, pb), pt) := ⟨_, _, _, rfl⟩
      have HPT : Hid (pt = (mget B (x1, x2)).isSome) := by
        unfold Hid
        have h3 : mget B (x1, x2) = mget m (x1, x2) := (ha (x1, x2)).symm
        rw [h3]
        unfold parentR at hpar
        cases e : mget m (x1, x2) with
        | none => rw [e] at hpar; injection hpar with _ h; rw [← h]
        | some q => rw [e] at hpar; injection hpar with _ h; rw [← h]
      have HPAR : Hid (∀ W, Below w6.heap.size w6 W → Calls Tryz.prog 35 #[ptr fp, hdV (x1, x2)] W fun e w' => e = .returned (.tuple #[.agg (ints [pa, pb]), .bool pt]) ∧ Below W.heap.size W w') := fun W hW => by
        have h1 := fparent_any (x1, x2) W (hsee.after hW)
        rw [hpar] at h1
        exact h1
      have HI6 := Lib.hid hI6
      have HFB := Lib.hid hfB
      clear hI6 hI7 HBL HI5 hlv hlvq hsee hpar hfB
      have HD : Hid (Below w6.heap.size w6 w6.drew) := (Below.refl _ _).drew
      have HDA : Hid (∀ ob, Below w6.heap.size w6 (w6.alloc ob).drew) := fun ob => ((Below.refl _ _).alloc (Nat.le_refl _) ob).drew
      have HBN : Hid (p < w6.heap.size ∧ bb < w6.heap.size) := by
        obtain ⟨wp, fp, m, _, _, _, hI7⟩ := HI6.out.openZoo
        exact ⟨hI7.blk.lt, HI6.out.swap.blk.lt⟩
      have HIA : Hid (∀ w10, Below (w6.alloc (.cells #[.int .i64 0, .int .i64 0] 46)).drew.heap.size (w6.alloc (.cells #[.int .i64 0, .int .i64 0] 46)).drew w10 → In (fun _ => False) w (Box w6.heap.size 46 (ints [0, 0]) :: ZooA p ⟨ls, f, B⟩ :: Box bb 56 (ints [x1, x2, y1, y2]) :: L) w10) := fun w10 hb => (HI6.out.alloc 46 (ints [0, 0])).drew.below hb
      clear q3 ha hm hf
      go_upto_region 11 with (fail)
      go_region_held3 (fun W => W.cell? ⟨p, 1, none⟩ = some (ptr fp) ∧ row? W bb 0 2 = some (ints [x1, x2]))
        (refine ⟨?_, ?_⟩ <;> (first | assumption | (refine cell_new_alloc _ ?_; assumption) | (refine row_alloc _ ?_; assumption) | (refine cell_put_new _ [0, 0] _ ?_; assumption) | (refine row_put_new _ [0, 0] _ ?_; assumption) | (refine cell_far (by have := HBN.out; omega) ?_; assumption) | (refine row_far (by have := HBN.out; omega) ?_; assumption)))
        (first
          | (go_at_call 35; refine (HPAR.out _ HD.out).mono ?_; rintro e w10 ⟨rfl, hb10⟩; have s4 := cell_after (w := w6.drew) hb10 c1; have s5 := row_after (w := w6.drew) hb10 q2; have HI7 := Lib.hid (HI6.out.drew.below hb10); clear hb10)
          | (go_at_call 35; refine (HPAR.out _ (HDA.out _)).mono ?_; rintro e w10 ⟨rfl, hb10⟩; have s4 := cell_after hb10 (cell_new_alloc (w := w6) _ c1); have s5 := row_after hb10 (row_alloc (w := w6) _ q2); have HI7 := Lib.hid (HIA.out _ hb10); have f3 := HI7.out.blk.fits 0 2 (by rw [ints_size]; simp); clear hb10))
      all_goals
        (first
          | (obtain ⟨W9, hW9⟩ : ∃ W9, putRow (w10.alloc (.cells #[Value.int .i64 0, Value.int .i64 0] 46)) w10.heap.size 0 [pa, pb] = W9 := ⟨_, rfl⟩; rw [hW9]; have hI8 : In (fun _ => False) w (ZooA p ⟨ls, f, B⟩ :: Box bb 56 (ints [x1, x2, y1, y2]) :: L) W9 := (by rw [← hW9]; exact (HI7.out.struct 46 [0, 0] [pa, pb] rfl).drop))
          | (obtain ⟨W9, hW9⟩ : ∃ W9, putRow w10 w6.heap.size 0 [pa, pb] = W9 := ⟨_, rfl⟩; rw [hW9]; have hI8 : In (fun _ => False) w (ZooA p ⟨ls, f, B⟩ :: Box bb 56 (ints [x1, x2, y1, y2]) :: L) W9 := (by rw [← hW9]; exact (HI7.out.put_all [pa, pb] rfl).drop)))
        clear HI7 HI6 HIA hW9
        cases hpt : pt with
        | true =>
          have HXE := Lib.hid (HERR.out 6 (by rw [HST.out, if_neg (fun h => h HLV.out), if_pos]; rw [← HPT.out, hpt]))
          have HB6 := Lib.hid hI8.below0
          clear HERR HST HNX hI8 hbs HPT
          subst hpt
          go_wp2_with fail
          go_ret2
          rw [HXE.out]
          exact ⟨HB6.out, rfl⟩
        | false =>
        have HNS : Hid ((mget B (x1, x2)).isSome = false) := by unfold Hid; rw [← HPT.out, hpt]
        clear HPT HPAR
        subst hpt
        obtain ⟨wp2, fp2, m2, hm2, hf2, ha2, hI9⟩ := hI8.openZoo
        have k2 : row? W9 bb 0 2 = some (ints [x1, x2]) := hI8.swap.blk.row_ints 0 2 (by simp)
        have k3 : row? W9 bb 2 2 = some (ints [y1, y2]) := hI8.swap.blk.row_ints 2 2 (by simp)
        have k1 : W9.cell? ⟨p, 1, none⟩ = some (ptr fp2) := hI9.blk.cell 1
        have HA2 := Lib.hid (ha2.adopt (x1, x2) (y1, y2))
        have HBE : Hid (bondsOf (adoptR m2 (x1, x2) (y1, y2)).1 = bondsOf (adoptR B (x1, x2) (y1, y2)).1 ∧ (adoptR m2 (x1, x2) (y1, y2)).2 = (adoptR B (x1, x2) (y1, y2)).2) :=
          ⟨bonds_congr (hf2.adopt _ _).nodup (HFB.out.adopt _ _).nodup HA2.out.1, HA2.out.2⟩
        have HI9 := Lib.hid (In.third hI9)
        clear hI8 hI9 hm2 hf2 ha2
        go_upto_region 14 with (fail)
        go_still_tail 8, (by kernel_rfl)
        change wpList _ _ _ _ _ W9.drew
        have HI10 := Lib.hid HI9.out.drew
        clear HI9 k1 k2 k3
        generalize W9.drew = w11 at *
        go_wp2_with fail
        refine (fadopt_in HI10.out (x1, x2) (y1, y2)).mono ?_
        rintro e w12 ⟨rfl, hI11⟩
        rw [HBE.out.2]
        rcases adopt_err B (x1, x2) (y1, y2) with h8 | h8
        rotate_left
        · have HXE := Lib.hid (HERR.out 8 (by rw [HST.out, if_neg (fun h => h HLV.out), if_neg (by rw [HNS.out]; simp), if_pos (by rw [h8]; decide), h8]))
          have HB6 := Lib.hid hI11.below0
          rw [h8]
          clear HERR HST HNX hI11 hbs h8 HBE HA2
          go_wp2_with fail
          go_ret2
          rw [HXE.out]
          exact ⟨HB6.out, rfl⟩
        rw [h8]
        have hI12 : In (fun _ => False) w (ZooA p ⟨ls, f, bondsOf (adoptR B (x1, x2) (y1, y2)).1⟩ :: Box bb 56 (ints [x1, x2, y1, y2]) :: L) w12 := In.shutZoo (z := ⟨ls, f, bondsOf (adoptR B (x1, x2) (y1, y2)).1⟩) HBE.out.1 hI11.third.third
        have HI12 := Lib.hid (hI12.swap.drop)
        have HNB : Hid (bondsZ (fun h => liveB ls h.1 h.2) [] (bs.take (k + 1)) = (some (bondsOf (adoptR B (x1, x2) (y1, y2)).1), 0)) := by
          have h1 := HST.out
          rw [if_neg (fun h => h HLV.out), if_neg (by rw [HNS.out]; simp), if_neg (by rw [h8]; simp)] at h1
          exact HNX.out.trans h1
        clear hI11 hI12 HI10 hbs h8 HERR HST HNX HBE HA2
        go_wp2_with fail
        go_roundw
        case rel => exact ⟨k + 1, by omega, by go_num, _, _, HNB.out, by rw [hL]; exact HI12.out⟩
        case measure => simp [intOf]; omega
    · have : k = bs.length := by omega
      subst this
      rw [List.take_length] at hE
      have HZ : Hid (loadZ ⟨gens, rows, bs⟩ = (some ⟨ls, f, B⟩, 0)) := by
        have h1 := HX.out
        rw [hE] at h1
        exact h1
      have HI := Lib.hid hI
      clear hI hE
      go_wp2_with fail
      go_ret2
      rw [HZ.out]
      exact ⟨HI.out.below0, p, rfl, (HI.out.swap.drop).fresh⟩

end Go.Proofs.YtpgcghnlepnoiaaGreatDoor

/-
  The contract of zoo.All: all of the operations, or none.
-/
namespace Go.Proofs.YtpgcghnlepnoiaaGreatDoor
open Go.RowKit

/-! ### what is meant -/
section
variable {sp : List Hd} {x : Hd} {o : OpM}
theorem meant_pos (h : 0 ≤ x.1) : meantH sp x = some x ∧ meantT sp x = x := by
  unfold meantH meantT
  exact ⟨if_pos h, if_neg (by omega)⟩
theorem meant_far (h : x.1 < 0) (h' : x.1 < -(sp.length : Int)) : meantH sp x = none := by
  unfold meantH
  rw [if_neg (by omega), if_pos h']
theorem meant_at (h : x.1 < 0) (h' : ¬ x.1 < -(sp.length : Int)) : ∃ k : Nat, ∃ hk : k < sp.length, -x.1 - 1 = (k : Int) ∧ meantH sp x = some sp[k] ∧ meantT sp x = sp[k] := by
  refine ⟨(-x.1 - 1).toNat, by omega, by omega, ?_, ?_⟩
  · unfold meantH
    rw [if_neg (by omega), if_neg h', List.getD_eq_getElem?_getD, List.getElem?_eq_getElem (by omega)]; rfl
  · unfold meantT
    rw [if_pos (by omega), List.getD_eq_getElem?_getD, List.getElem?_eq_getElem (by omega)]; rfl
theorem setO_same {off : Nat} (h : off = 10 ∨ off = 12) : setO o off (handO o off) = o := by
  rcases h with rfl | rfl <;> rfl
theorem meanK_succ (sp : List Hd) (o : OpM) (offs : List Nat) (j : Nat) (hj : j < offs.length) : meanK sp o (offs.take (j + 1)) = setO (meanK sp o (offs.take j)) offs[j] (meantT sp (handO (meanK sp o (offs.take j)) offs[j])) := by
  rw [List.take_succ_eq_append_getElem hj, meanK_append]; rfl
end

/-- what All answers -/
def AllPost (z : ZS) (os : List OpM) (n e : Int) (R : ZS → Prop) : Prop :=
  (∃ z' sp, os.length ≤ 80 ∧ runA (z, []) os = some (z', sp) ∧ n = os.length ∧ e = 0 ∧ R z') ∨ (e ≠ 0 ∧ 0 ≤ n ∧ n ≤ os.length ∧ (os.length ≤ 80 → runA (z, []) os = none) ∧ R z)

section
variable {G : Nat → Prop} {w0 w : World} {l : List Assn} {p : Nat} {z : ZS} {B : Nat} {A : Option Addr} {c : Nat} {os : List OpM}
theorem ptrs_at {w : World} {v : Value} {ob : Nat} {offs : List Nat} {E : TypeId} (h : w.ownsRow 0 E 1 v offs.length (offs.map fun o => Value.pointer (some ⟨ob, o, none⟩))) : ∃ A c, v = .slice A offs.length c ∧ offs.length ≤ c ∧ c ≤ maxLen ∧ ∀ k, (hk : k < offs.length) → ∃ g, A = some ⟨g, 0, none⟩ ∧
    w.cell? ⟨g, k, none⟩ = some (.pointer (some ⟨ob, offs[k], none⟩)) := by
  obtain ⟨A, c, rfl, hc1, hc2, hA⟩ := own_form h
  refine ⟨A, c, rfl, hc1, hc2, fun k hk => ?_⟩
  obtain ⟨g, rfl⟩ := hA (by omega)
  have hr := own_row h hk
  refine ⟨g, rfl, ?_⟩
  rw [Nat.mul_one] at hr
  unfold row? at hr
  split at hr
  · rename_i cs t fr hg
    split at hr
    · rename_i hn
      injection hr with hr
      rw [cell_of_row w g k cs t fr hg]
      have h1 := congrArg (fun a : Array Value => a[0]?) hr
      simp only [Array.getElem?_extract] at h1
      rw [if_pos (by omega)] at h1
      rw [Nat.add_zero] at h1
      rw [h1]
      simp [hk]
    · cases hr
  · cases hr
set_option maxHeartbeats 4000000 in
set_option maxRecDepth 100000 in
theorem zall_in (hO : OpsAt G w0 B A os) (hlen : os.length ≤ 1099511627776) (h8 : ∀ o ∈ os, o.b.v.length = 8) (hk : ZOk z) (h : In G w0 (ZooA p z :: l) w) :
    Calls Tryz.prog 34 #[ptr p, .slice A os.length c] w fun e w' => ∃ n e' : Int, e = .returned (.tuple #[.int .i64 n, .int .i64 e']) ∧ AllPost z os n e' fun z' => In G w0 (ZooA p z' :: l) w' := by
  have H0 := Lib.hid h
  have HK := Lib.hid hk
  have HO : Hid (OpsAt G w0 B A os) := hO
  have H8 := Lib.hid h8
  obtain ⟨i0, hi0, hz0, hz1, hz2⟩ := info_parts handle_partsF
  clear h hk hO h8
  go_enter Tryz.func34, Tryz.ntmps34
  by_cases hL : 80 < os.length
  · have hL' : (80 : Int) < os.length := by omega
    go_wp2_with fail
    go_ret2
    exact ⟨0, 2, rfl, Or.inr ⟨by decide, by decide, by omega, fun h => by omega, H0.out⟩⟩
  have hL' : ¬ (80 : Int) < os.length := by omega
  go_wp2_with fail
  refine (zstate_in H0.out HK.out).mono ?_
  rintro e w1 ⟨gv, rv, bv, rfl, hI1⟩
  have HI1 := Lib.hid hI1
  clear hI1 H0
  go_wp2_with fail
  refine (zload_in HI1.out HK.out).mono ?_
  rintro e w2 ⟨np, rfl, hI2⟩
  have HI2 := Lib.hid (hI2.swap.drop.swap.drop.swap.drop)
  clear hI2 HI1
  go_wp2_with fail
  go_loopw [26, 8] (fun i sv w' => ∃ (k : Nat) (zk : ZS) (sp : List Hd), k ≤ os.length ∧ i = .int .i64 k ∧ runA (z, []) (os.take k) = some (zk, sp) ∧ sp.length ≤ k ∧ In G w0 (ZooA np zk :: RowH sv sp :: ZooA p z :: l) w') (fun i _ _ => os.length - (intOf i).toNat)
  case atStart => exact ⟨0, z, [], Nat.zero_le _, rfl, rfl, Nat.zero_le _, (HI2.out.nilRow 46 2).swap⟩
  case round =>
    clear HI2
    obtain ⟨k, zk, sp, hk, rfl, hrun, hspl, hI⟩ := hrel
    obtain ⟨As, cs, rfl, hcs1, hcs2, _⟩ := rowH_at hI.swap.rowAt
    by_cases hlt : k < os.length
    · have hki : (k : Int) < os.length := by omega
      obtain ⟨b, o, rfl, hbl, q1⟩ := (HO.out hI.bare).at_ hlt
      have HV8 : Hid (os[k].b.v.length = 8) := H8.out _ (List.getElem_mem hlt)
      have h16 : (OpM.list os[k]).length = 16 := OpM.len HV8.out
      have HOK : Hid (ZOk zk) := runA_ok (s := (z, [])) HK.out (fun o ho => H8.out o (List.mem_of_mem_take ho)) hrun
      have HSTOP : Hid (errA (zk, sp) os[k] ≠ 0 → runA (z, []) os = none) := runA_stop hlt hrun
      have HSNOC : Hid (runA (z, []) (os.take (k + 1)) = stepA (zk, sp) os[k]) := runA_snoc hlt hrun
      have hsp80 : sp.length ≤ 80 := by omega
      have HI := Lib.hid hI
      clear hI hrun
      generalize os[k] = op at *
      go_upto_region 8 with (fail)
      refine wp_abs (In G w0 (Box wr.heap.size 81 (ints op.list) :: ZooA np zk :: RowH (.slice As sp.length cs) sp :: ZooA p z :: l)) (HI.out.struct 81 [0, 0, 0, 0, 0, 0, 0, 0, 0, 0, 0, 0, 0, 0, 0, 0] op.list h16) ?_
      generalize wr.heap.size = ob
      intro w3 hI3
      have HI3 := Lib.hid hI3
      clear hI3 q1 HI
      go_wp2_with fail
      refine (looks_in HI3.out).mono ?_
      rintro e w4 ⟨lv, rfl, hI4⟩
      obtain ⟨Ap, cp, rfl, hcp1, hcp2, _⟩ := ptrs_at hI4.rowAt
      have hol := offs_len op.d
      have HI4 := Lib.hid hI4.swap
      clear hI4 HI3
      go_wp2_with fail
      go_loopw [33] (fun i w' => ∃ j : Nat, j ≤ (offsZ op.d).length ∧ i = .int .i64 j ∧ (∀ t, t < j → (ht : t < (offsZ op.d).length) → meantH sp (handO op (offsZ op.d)[t]) ≠ none) ∧ In G w0 (Box ob 81 (ints (meanK sp op ((offsZ op.d).take j)).list) :: PtrsA (.slice Ap (offsZ op.d).length cp) ob (offsZ op.d) :: ZooA np zk :: RowH (.slice As sp.length cs) sp :: ZooA p z :: l) w') (fun i _ => (offsZ op.d).length - (intOf i).toNat)
      case atStart => exact ⟨0, Nat.zero_le _, rfl, fun t ht => by omega, HI4.out⟩
      case round =>
        clear HI4
        obtain ⟨j, hj, rfl, hms, hI⟩ := hrel
        by_cases hjt : j < (offsZ op.d).length
        · have hji : (j : Int) < (offsZ op.d).length := by omega
          obtain ⟨A', c', e0, _, hjc, hrow⟩ := ptrs_at hI.swap.rowAt
          injection e0 with e1 e2 e3
          subst e1; subst e3
          obtain ⟨g, rfl, q1⟩ := hrow j hjt
          have hoff := offs_mem (List.getElem_mem hjt)
          have HKEPT : Hid (handO (meanK sp op ((offsZ op.d).take j)) (offsZ op.d)[j] = handO op (offsZ op.d)[j]) := hand_kept sp op j hjt
          have HSUC : Hid (meanK sp op ((offsZ op.d).take (j + 1)) = setO (meanK sp op ((offsZ op.d).take j)) (offsZ op.d)[j] (meantT sp (handO (meanK sp op ((offsZ op.d).take j)) (offsZ op.d)[j]))) := meanK_succ sp op _ j hjt
          have HNONE : Hid (meantH sp (handO op (offsZ op.d)[j]) = none → looksZ sp op = none) := looks_none hjt
          have HMS : Hid (meantH sp (handO op (offsZ op.d)[j]) ≠ none → ∀ t, t < j + 1 → (ht : t < (offsZ op.d).length) → meantH sp (handO op (offsZ op.d)[t]) ≠ none) := fun h t ht hh => by
            by_cases e : t = j
            · subst e; exact h
            · exact hms t (by omega) hh
          have hv8 : (meanK sp op ((offsZ op.d).take j)).b.v.length = 8 := by rw [(meanK_b _ _ _).1]; exact HV8.out
          have hm16 := OpM.len hv8
          have q2 : row? wr ob (offsZ op.d)[j] 2 = some (ints [(handO (meanK sp op ((offsZ op.d).take j)) (offsZ op.d)[j]).1, (handO (meanK sp op ((offsZ op.d).take j)) (offsZ op.d)[j]).2]) := by
            rw [hI.blk.row_ints _ 2 (by rw [hm16]; rcases hoff with h | h <;> rw [h] <;> omega), op_hand hv8 hoff]
          have HSET : Hid (∀ x : Hd, (meanK sp op ((offsZ op.d).take j)).list.take (offsZ op.d)[j] ++ [x.1, x.2] ++ (meanK sp op ((offsZ op.d).take j)).list.drop ((offsZ op.d)[j] + 2) = (setO (meanK sp op ((offsZ op.d).take j)) (offsZ op.d)[j] x).list) := fun x => op_set hv8 hoff x
          have HSAME : Hid (∀ o : OpM, setO o (offsZ op.d)[j] (handO o (offsZ op.d)[j]) = o) := fun o => setO_same hoff
          have qf : fits wr ob (offsZ op.d)[j] 2 = true := hI.blk.fits _ 2 (by rw [ints_size, hm16]; rcases hoff with h | h <;> rw [h] <;> omega)
          rw [HKEPT.out] at q2 HSUC
          have HI := Lib.hid hI
          have HSAMEJ := Lib.hid (HSAME.out (meanK sp op ((offsZ op.d).take j)))
          rw [HKEPT.out] at HSAMEJ
          clear hI hrow e2 HKEPT hms hv8 hm16 HSAME
          generalize hoffs : (offsZ op.d)[j] = off at *
          generalize hx : handO op off = x at *
          obtain ⟨s, g2⟩ := x
          have q3 := cell_row0 q2
          by_cases hs : 0 ≤ s
          · have hmp : meantH sp (s, g2) = some (s, g2) ∧ meantT sp (s, g2) = (s, g2) := meant_pos hs
            have HST := Lib.hid hmp
            have hs' : (0 : Int) ≤ s := hs
            clear hmp
            go_wp2_with fail
            go_roundw
            case rel => exact ⟨j + 1, by omega, by go_num, HMS.out (by rw [HST.out.1]; simp), by rw [HSUC.out, HST.out.2, HSAMEJ.out]; exact HI.out⟩
            case measure => simp [intOf]; omega
          · have hs' : ¬ (0 : Int) ≤ s := hs
            have hs0 : s < 0 := by omega
            have hwl : wrap64 (-(sp.length : Int)) = -(sp.length : Int) := IntWalk.wrap64_in _ (by omega)
            by_cases hf : s < -(sp.length : Int)
            · have HNL : Hid (looksZ sp op = none) := HNONE.out (meant_far hs0 hf)
              clear q2 qf
              go_wp2_with fail
              go_ret2
              have HN : Hid (runA (z, []) os = none) := HSTOP.out (by unfold errA; rw [HNL.out]; exact (by decide : (5 : Int) ≠ 0))
              exact ⟨k, 5, rfl, Or.inr ⟨by decide, by omega, by omega, fun _ => HN.out, HI.out.drop.drop.drop.drop⟩⟩
            · obtain ⟨i, hi, hsi, hm1, hm2⟩ := meant_at (sp := sp) (x := (s, g2)) hs0 hf
              have hws : wrap64 (-s) = -s := IntWalk.wrap64_in _ (by omega)
              have hwd : wrap64 (-s - 1) = (i : Int) := by rw [hsi]; exact IntWalk.wrap64_in _ (by omega)
              have hi0 : (0 : Int) ≤ (i : Int) := by omega
              have hi1 : (i : Int) < sp.length := by omega
              obtain ⟨As', cs', e0, _, _, hrow⟩ := rowH_at (HI.out.nth 3 (by simp)).rowAt
              injection e0 with e1 e2 e3
              subst e1; subst e3
              obtain ⟨gs, rfl, q5⟩ := hrow i hi
              have hcs' : (sp.length : Int) ≤ cs := by omega
              have HM1 : Hid (meantH sp (s, g2) ≠ none) := Lib.hid (by rw [hm1]; exact Option.some_ne_none _)
              have HM2 := Lib.hid hm2
              clear hm1 hm2 hrow e2 hoff HNONE
              generalize sp[i] = y at *
              obtain ⟨y1, y2⟩ := y
              have hii : i = (-s).toNat - 1 := by omega
              have q6 : row? wr gs (((-s).toNat - 1) * 2) 2 = some (ints [y1, y2]) := by rw [← hii]; exact q5
              clear hii
              have HI5 := HI.out.put off [y1, y2]
              rw [show off + [y1, y2].length = off + 2 from rfl, HSET.out (y1, y2)] at HI5
              have HI5 := Lib.hid HI5
              go_wp2_with fail
              clear qf q2 q3 q1 q5 q6 HSET hs hs' hs0 hwl hf hws hwd hsi hi0 hi1
              go_roundw
              case rel => exact ⟨j + 1, by omega, by go_num, HMS.out HM1.out, by rw [HSUC.out, HM2.out]; exact HI5.out⟩
              case measure => simp [intOf]; omega
        · have : j = (offsZ op.d).length := by omega
          subst this
          rw [List.take_length] at hI
          have HLK : Hid (looksZ sp op = some (meanK sp op (offsZ op.d))) := looks_all fun t ht => hms t ht ht
          have HMB := Lib.hid (meanK_b sp (offsZ op.d) op)
          generalize meanK sp op (offsZ op.d) = o2 at *
          have hI6 := hI.swap.drop
          have hv8 : o2.b.v.length = 8 := by rw [HMB.out.1]; exact HV8.out
          have HV2 := Lib.hid hv8
          have q2 : row? wr ob 0 16 = some (ints o2.list) := hI6.blk.row_all (OpM.len hv8)
          have HI6 := Lib.hid hI6.swap
          clear hI hI6 hms hv8
          go_wp2_with fail
          refine (zdo_in HI6.out HOK.out o2 HV2.out).mono ?_
          rintro e w7 ⟨rfl, hI7⟩
          have HERR : Hid (errA (zk, sp) op = (doZ zk o2).2.2) := by unfold Hid errA; rw [HLK.out]; rfl
          have HNEXT : Hid (errA (zk, sp) op = 0 → stepA (zk, sp) op = some ((doZ zk o2).1, if op.d = 1 then sp ++ [(doZ zk op).2.1] else sp)) := fun h => by
            unfold stepA
            rw [if_pos h]
            unfold nextA
            rw [HLK.out]; rfl
          have HI7 := Lib.hid hI7
          clear hI7 HI6 q2
          have HONE : Hid (op.d = 1 → o2 = op) := fun h => by
            have h1 := HLK.out
            rw [looks_one h] at h1
            injection h1 with h1
            exact h1.symm
          generalize hr : doZ zk o2 = r at *
          have HR := Lib.hid hr
          clear hr
          obtain ⟨z2, ⟨h1, h2⟩, E⟩ := r
          simp only at HERR HNEXT HI7 ⊢
          go_upto_region 17 with (fail)
          refine wp_abs (In G w0 (Box w7.heap.size 46 (ints [h1, h2]) :: ZooA np z2 :: Box ob 81 (ints o2.list) :: RowH (.slice As sp.length cs) sp :: ZooA p z :: l)) (HI7.out.struct 46 [0, 0] [h1, h2] rfl) ?_
          generalize w7.heap.size = hb
          intro w8 hI8
          have q4 : row? w8 hb 0 2 = some (ints [h1, h2]) := hI8.blk.row_all rfl
          have q5 : w8.cell? ⟨ob, 0, none⟩ = some (.int .i64 o2.d) := hI8.third.blk.cell 0
          rw [HMB.out.2] at q5
          have HI8 := Lib.hid hI8
          clear hI8 HI7
          by_cases he : E = 0
          rotate_left
          · have he' : (E != 0) = true := by simpa using he
            go_wp2_with fail
            go_ret2
            exact ⟨k, E, rfl, Or.inr ⟨he, by omega, by omega, fun _ => HSTOP.out (by rw [HERR.out]; exact he), HI8.out.drop.drop.drop.drop⟩⟩
          subst he
          have HSTEP := Lib.hid (HNEXT.out HERR.out)
          clear HNEXT HSTOP
          generalize hopd : op.d = d at *
          by_cases hd1 : d = 1
          · have hd : (d == 1) = true := by simp [hd1]
            have HE1 : Hid ((doZ zk op).2.1 = (h1, h2)) := by
              have h3 := HONE.out hd1
              have h4 := HR.out
              rw [h3] at h4
              unfold Hid
              rw [h4]
            have HSP : Hid (runA (z, []) (os.take (k + 1)) = some (z2, sp ++ [(h1, h2)])) := by
              unfold Hid
              rw [HSNOC.out, HSTEP.out, if_pos hd1, HE1.out]
            have HI9 : Hid (In G w0 (RowH (.slice As sp.length cs) sp :: Box hb 46 (ints [h1, h2]) :: ZooA np z2 :: Box ob 81 (ints o2.list) :: ZooA p z :: l) w8) := HI8.out.fourth
            have HO := Lib.hid HI9.out.rowAt
            clear hd1 HONE HR HSNOC HSTEP HI8 HMB HLK HERR
            go_wp2_with (at_builtin; go_loud (refine wpList_append1_at rfl _ _ 119 rfl 0 46 i0 _ 2 16 Tryz.underlying119 hi0 hz0 hz1 hz2 rfl (by decide) (.slice As sp.length cs) sp.length (sp.flatMap hC) rfl HO.out [.int .i64 h1, .int .i64 h2] rfl rfl (by simp [Value.oneCell']) ?_ ?_ (Nat.zero_le _) ?_))
            case refine_1 => unfold maxLen; omega
            case refine_2 => omega
            intro v' w9 ho hg hor
            have hI10 := In.appendH (x := (h1, h2)) HI9.out ho hg hor
            have HI10 := Lib.hid hI10
            clear ho hg hor hI10 HI9 HO q4 q5
            go_wp2_with fail
            go_roundw
            case rel => exact ⟨k + 1, z2, sp ++ [(h1, h2)], by omega, by go_num, HSP.out, by simp; omega, HI10.out.swap.drop.third.drop.swap⟩
            case measure => simp [intOf]; omega
          · have hd : (d == 1) = false := by simp [hd1]
            have HSP : Hid (runA (z, []) (os.take (k + 1)) = some (z2, sp)) := by
              unfold Hid
              rw [HSNOC.out, HSTEP.out, if_neg hd1]
            clear hd1 HONE HR HSNOC HSTEP HMB HLK HERR
            go_wp2_with fail
            clear q4 q5
            go_roundw
            case rel => exact ⟨k + 1, z2, sp, by omega, by go_num, HSP.out, by omega, HI8.out.drop.swap.drop⟩
            case measure => simp [intOf]; omega
    · have : k = os.length := by omega
      subst this
      rw [List.take_length] at hrun
      obtain ⟨wp2, fp2, m2, hm2, hf2, ha2, hI1⟩ := hI.openZoo
      have hI1' : In G w0 (ZooA p z :: zBox np wp2 fp2 :: WorldA wp2 zk.ls zk.f :: FamA fp2 m2 :: RowH (.slice As sp.length cs) sp :: l) wr := hI1.reorder 5 [4, 0, 1, 2, 3] rfl (by simp)
      obtain ⟨wp, fp, m, hm, hf, ha, hI2⟩ := hI1'.openZoo
      have c1 : row? wr np 0 2 = some #[ptr wp2, ptr fp2] := by
        rw [hI1.blk.row 0 2 (by simp)]; rfl
      have c2 : fits wr p 0 2 = true := hI2.blk.fits 0 2 (by simp)
      have HI3 := Lib.hid (hI2.putV [ptr wp2, ptr fp2] rfl)
      have HM2 := Lib.hid hm2
      have HRUN := Lib.hid hrun
      clear hI hI1 hI1' hI2 hm2 hf2 ha2 hm hf ha hrun
      go_wp2_with fail
      go_ret2
      refine ⟨os.length, 0, rfl, Or.inl ⟨zk, sp, by omega, HRUN.out, rfl, rfl, ?_⟩⟩
      exact (In.shutZoo HM2.out HI3.out.swap.drop.swap.drop.swap.drop).swap.drop
end

end Go.Proofs.YtpgcghnlepnoiaaGreatDoor

/-
  All at operations of one's own; the closed fact 'kept'.
-/
namespace Go.Proofs.YtpgcghnlepnoiaaGreatDoor
open Go.RowKit

section
variable {G : Nat → Prop} {w0 w : World} {l : List Assn} {p g : Nat} {z : ZS} {c : Nat} {os : List OpM} {t : TypeId}
theorem flat_ints {α : Type} (f : α → List Int) (xs : List α) (k n : Nat) (hf : ∀ x ∈ xs, (f x).length = n) (hk : k < xs.length) : ((xs.flatMap f).drop (k * n)).take n = f xs[k] := by
  induction xs generalizing k with
  | nil => simp at hk
  | cons x xs ih =>
    have hx := hf x (by simp)
    cases k with
    | zero => rw [Nat.zero_mul, List.drop_zero, List.flatMap_cons, List.take_left' hx]; rfl
    | succ k =>
      rw [List.flatMap_cons, Nat.succ_mul, Nat.add_comm, ← List.drop_drop, List.drop_left' hx]
      exact ih k (fun y hy => hf y (by simp [hy])) (by simpa using hk)
theorem flat_ints_len {α : Type} (f : α → List Int) (xs : List α) (n : Nat) (hf : ∀ x ∈ xs, (f x).length = n) : (xs.flatMap f).length = xs.length * n := by
  induction xs with
  | nil => simp
  | cons x xs ih => rw [List.flatMap_cons, List.length_append, hf x (by simp), ih fun y hy => hf y (by simp [hy]), List.length_cons]; rw [Nat.succ_mul]; omega
theorem OpsAt.of_blk {F : Nat → Prop} (h : Blk w g t (ints (os.flatMap OpM.list))) (h8 : ∀ o ∈ os, o.b.v.length = 8) (hF : ¬ F g) : OpsAt F w (g + 1) (some ⟨g, 0, none⟩) os := by
  intro W hI
  have hlt := h.lt
  have hB : Blk W g t (ints (os.flatMap OpM.list)) := (hI.old hlt hF).trans h
  refine ⟨fun r hr => by obtain ⟨x, hx, rfl⟩ := List.mem_map.1 hr; exact OpM.len (h8 x hx), fun h0 => ⟨g, 0, rfl, by omega, fun k r hr => ?_⟩⟩
  rw [List.getElem?_map] at hr
  obtain ⟨x, hx, rfl⟩ := Option.map_eq_some_iff.1 hr
  obtain ⟨hk, rfl⟩ := List.getElem?_eq_some_iff.1 hx
  have hl16 : ∀ o ∈ os, (OpM.list o).length = 16 := fun o ho => OpM.len (h8 o ho)
  have hll := flat_ints_len OpM.list os 16 hl16
  have hkm : (k + 1) * 16 ≤ os.length * 16 := Nat.mul_le_mul_right 16 hk
  rw [Nat.zero_add, hB.row_ints (k * 16) 16 (by rw [hll]; omega), flat_ints OpM.list os k 16 hl16 hk]
theorem In.back {F F1 F2 : Nat → Prop} {w' : World} {A' : Assn} (h2 : Sep l w F2) (h3 : ∀ k, F1 k → ¬ F2 k) (h4 : ∀ k, F1 k ∨ F2 k → (F k ∨ w0.heap.size ≤ k) ∧ k < w.heap.size) (ho : Only F w0 w) (ha : A'.at_ w' (Plus F1 w w')) (ho' : Only F1 w w') : In F w0 (A' :: l) w' := by
  refine ⟨⟨_, F2, ha, h2.frame ho' fun k a b => h3 k b a, fun k a b => ?_, fun k h => ?_⟩, ho.trans' ho' fun k hk hf => ?_⟩
  · rcases a with a | a
    · exact h3 k a b
    · have := (h4 k (Or.inr b)).2; omega
  · have hs := ho'.size
    have hs0 := ho.size
    rcases h with (h | h) | h
    · have := h4 k (Or.inl h); exact ⟨this.1, by omega⟩
    · exact ⟨Or.inr (by omega), h.2⟩
    · have := h4 k (Or.inr h); exact ⟨this.1, by omega⟩
  · have := h4 k (Or.inl hf)
    rcases this.1 with h | h
    · exact h
    · omega
theorem zall_own (h8 : ∀ o ∈ os, o.b.v.length = 8) (hlen : os.length ≤ 1099511627776) (hk : ZOk z) (h : In G w0 (ZooA p z :: Box g t (ints (os.flatMap OpM.list)) :: l) w) :
    Calls Tryz.prog 34 #[ptr p, .slice (some ⟨g, 0, none⟩) os.length c] w fun e w' => ∃ n e' : Int, e = .returned (.tuple #[.int .i64 n, .int .i64 e']) ∧ AllPost z os n e' fun z' => In G w0 (ZooA p z' :: Box g t (ints (os.flatMap OpM.list)) :: l) w' := by
  obtain ⟨⟨F1, F2, h1, h2, h3, h4⟩, ho⟩ := h
  have h2' := h2
  obtain ⟨F3, F4, ⟨hb, hg⟩, _, _, h6⟩ := h2'
  have hF : ¬ F1 g := fun e => h3 g e (h6 g (Or.inl hg))
  refine (zall_in (c := c) (OpsAt.of_blk hb h8 hF) hlen h8 hk (In.one (A := ZooA p z) h1)).mono ?_
  rintro e w' ⟨n, e', rfl, hp⟩
  have hback : ∀ z', In F1 w [ZooA p z'] w' → In G w0 (ZooA p z' :: Box g t (ints (os.flatMap OpM.list)) :: l) w' := fun z' hz => In.back h2 h3 h4 ho hz.done.1 hz.done.2
  refine ⟨n, e', rfl, ?_⟩
  rcases hp with ⟨z', sp, a, b, c, d, e⟩ | ⟨a, b, c, d, e⟩
  · exact Or.inl ⟨z', sp, a, b, c, d, hback z' e⟩
  · exact Or.inr ⟨a, b, c, d, hback z e⟩
end

def kOp : OpM := ⟨1, ⟨0, [0, 0, 0, 0, 0, 0, 0, 0]⟩, (0, 0), (0, 0), 0, 0⟩
def kOps : List OpM := [kOp, kOp, ⟨5, ⟨0, [0, 0, 0, 0, 0, 0, 0, 0]⟩, (-2, 0), (-1, 0), 0, 0⟩]
theorem kept_runs : ∃ z', runA (zoo0, []) kOps = some (z', [(0, 0), (1, 0)]) ∧ mget z'.B (1, 0) = some (0, 0) := by
  have s1 : spawnW zoo0.ls zoo0.f kOp.b = (([(0, true)], updB (fun _ => none) 0 (some (0, kOp.b))), (0, 0), 0) := rfl
  have s2 : spawnW [(0, true)] (updB (fun _ => none) 0 (some (0, kOp.b))) kOp.b = (([(0, true), (0, true)], updB (updB (fun _ => none) 0 (some (0, kOp.b))) 1 (some (0, kOp.b))), (1, 0), 0) := rfl
  have d1 : doZ zoo0 kOp = (⟨[(0, true)], updB (fun _ => none) 0 (some (0, kOp.b)), []⟩, (0, 0), 0) := by
    rw [doZ_1 _ _ rfl, s1]; rfl
  have d2 : doZ ⟨[(0, true)], updB (fun _ => none) 0 (some (0, kOp.b)), []⟩ kOp = (⟨[(0, true), (0, true)], updB (updB (fun _ => none) 0 (some (0, kOp.b))) 1 (some (0, kOp.b)), []⟩, (1, 0), 0) := by
    rw [doZ_1 _ _ rfl]
    simp only [s2]
  have hno : ¬ ((1, 0) = ((0, 0) : Hd) ∨ Up [] (0, 0) (1, 0)) := by
    rintro (e | e)
    · cases e
    · cases e with
      | one h => simp [mget] at h
      | more h _ => simp [mget] at h
  have ha : adoptR [] (1, 0) (0, 0) = ([((1, 0), (0, 0))], 0) := by
    unfold adoptR
    rw [if_neg hno]; rfl
  have hb : bondsOf [((1, 0), ((0, 0) : Hd))] = [((1, 0), (0, 0))] := by unfold bondsOf; simp
  have d3 : doZ ⟨[(0, true), (0, true)], updB (updB (fun _ => none) 0 (some (0, kOp.b))) 1 (some (0, kOp.b)), []⟩ ⟨5, ⟨0, [0, 0, 0, 0, 0, 0, 0, 0]⟩, (1, 0), (0, 0), 0, 0⟩ = (⟨[(0, true), (0, true)], updB (updB (fun _ => none) 0 (some (0, kOp.b))) 1 (some (0, kOp.b)), [((1, 0), (0, 0))]⟩, (0, 0), 0) := by
    rw [doZ_5 _ _ rfl]
    have : adoptZ ⟨[(0, true), (0, true)], updB (updB (fun _ => none) 0 (some (0, kOp.b))) 1 (some (0, kOp.b)), []⟩ (1, 0) (0, 0) = (⟨[(0, true), (0, true)], updB (updB (fun _ => none) 0 (some (0, kOp.b))) 1 (some (0, kOp.b)), [((1, 0), (0, 0))]⟩, 0) := by
      unfold adoptZ
      rw [if_pos ⟨rfl, rfl⟩]
      simp only [ha, hb]
    simp only [this]
  have l1 : looksZ [] kOp = some kOp := rfl
  have l2 : looksZ [(0, 0)] kOp = some kOp := rfl
  have l3 : looksZ [(0, 0), (1, 0)] ⟨5, ⟨0, [0, 0, 0, 0, 0, 0, 0, 0]⟩, (-2, 0), (-1, 0), 0, 0⟩ = some ⟨5, ⟨0, [0, 0, 0, 0, 0, 0, 0, 0]⟩, (1, 0), (0, 0), 0, 0⟩ := rfl
  refine ⟨⟨[(0, true), (0, true)], updB (updB (fun _ => none) 0 (some (0, kOp.b))) 1 (some (0, kOp.b)), [((1, 0), (0, 0))]⟩, ?_, rfl⟩
  have t1 : stepA (zoo0, []) kOp = some (⟨[(0, true)], updB (fun _ => none) 0 (some (0, kOp.b)), []⟩, [(0, 0)]) := by
    unfold stepA errA nextA
    rw [l1]
    simp only [Option.map_some, Option.getD_some, d1]
    rfl
  have t2 : stepA (⟨[(0, true)], updB (fun _ => none) 0 (some (0, kOp.b)), []⟩, [(0, 0)]) kOp = some (⟨[(0, true), (0, true)], updB (updB (fun _ => none) 0 (some (0, kOp.b))) 1 (some (0, kOp.b)), []⟩, [(0, 0), (1, 0)]) := by
    unfold stepA errA nextA
    rw [l2]
    simp only [Option.map_some, Option.getD_some, d2]
    rfl
  have t3 : stepA (⟨[(0, true), (0, true)], updB (updB (fun _ => none) 0 (some (0, kOp.b))) 1 (some (0, kOp.b)), []⟩, [(0, 0), (1, 0)]) ⟨5, ⟨0, [0, 0, 0, 0, 0, 0, 0, 0]⟩, (-2, 0), (-1, 0), 0, 0⟩ = some (⟨[(0, true), (0, true)], updB (updB (fun _ => none) 0 (some (0, kOp.b))) 1 (some (0, kOp.b)), [((1, 0), (0, 0))]⟩, [(0, 0), (1, 0)]) := by
    unfold stepA errA nextA
    rw [l3]
    simp only [Option.map_some, Option.getD_some, d3]
    rfl
  unfold kOps
  rw [runA, t1, Option.bind_some, runA, t2, Option.bind_some, runA, t3]
  rfl
set_option maxHeartbeats 2000000 in
set_option maxRecDepth 100000 in
theorem kept_any (w : World) : Calls Tryz.prog 12 #[] w fun e w' => e = .returned (.bool true) ∧ Below w.heap.size w w' := by
  have hbs : ∀ W, (Instr.buildSlice 38 3 #[(0, .agg (ints [1, 0, 0, 0, 0, 0, 0, 0, 0, 0, 0, 0, 0, 0, 0, 0])), (1, .agg (ints [1, 0, 0, 0, 0, 0, 0, 0, 0, 0, 0, 0, 0, 0, 0, 0])), (2, .agg (ints [5, 0, 0, 0, 0, 0, 0, 0, 0, 0, -2, 0, -1, 0, 0, 0]))]).run Tryz.prog W = .ok (.slice (some ⟨W.heap.size, 0, none⟩) 3 3) (W.alloc (.cells (ints (kOps.flatMap OpM.list)) 81)) := fun W => by kernel_rfl
  go_enter Tryz.func12, Tryz.ntmps12
  go_wp2_with fail
  refine (znew_in (In.nil w (fun _ => False))).mono ?_
  rintro e w1 ⟨p, rfl, hI⟩
  have HI1 := Lib.hid hI
  clear hI
  go_wp2_with fail
  refine (zall_own (os := kOps) (c := 3) (by intro o ho; simp [kOps, kOp] at ho; rcases ho with rfl | rfl <;> rfl) (by decide) ZOk.nil (HI1.out.alloc 81 (ints (kOps.flatMap OpM.list))).swap).mono ?_
  rintro e w2 ⟨n, e', rfl, hp⟩
  obtain ⟨z1, hrun, hpar⟩ := kept_runs
  rcases hp with ⟨z', sp, _, hr, rfl, rfl, hI2⟩ | ⟨_, _, _, hr, _⟩
  rotate_left
  · rw [hrun] at hr
    cases hr (by decide)
  rw [hrun] at hr
  injection hr with hr
  injection hr with hz hs
  subst hz
  obtain ⟨wp, fp, m, hm, hf, ha, hI3⟩ := hI2.openZoo
  have c1 : w2.cell? ⟨p, 1, none⟩ = some (ptr fp) := hI3.blk.cell 1
  obtain ⟨fb, hsee⟩ := hI3.third.seeFam
  have HPAR := Lib.hid (fparent_any (1, 0) w2 hsee)
  have hpr : parentR m (1, 0) = ((0, 0), true) := by
    unfold parentR
    rw [ha, hpar]
    rfl
  rw [hpr] at HPAR
  have HB := Lib.hid hI2.below0
  clear hI3 hI2 hm hf ha hsee hpr hrun hpar HI1 hbs
  go_wp2_with fail
  refine HPAR.out.mono ?_
  rintro e w3 ⟨rfl, hb3⟩
  have HB3 : Hid (Below w.heap.size w w3) := HB.out.trans (hb3.mono HB.out.size)
  clear hb3 HPAR c1
  rw [hdV_eq]
  go_upto_region 6 with (fail)
  refine wp_abs (fun w' => Blk w' w3.heap.size 46 (ints [0, 0]) ∧ Below w.heap.size w w') ⟨blk_new_put w3 _ [0, 0] [0, 0] rfl, HB3.out.trans ((below_new_put w3 _ [0, 0] [0, 0]).mono HB3.out.size)⟩ ?_
  generalize w3.heap.size = hb
  rintro w4 ⟨hB4, hb4⟩
  have q4 : row? w4 hb 0 2 = some (ints [0, 0]) := hB4.row_all rfl
  have heq1 : ∀ W, (binOp .eql 46 (.agg (ints [0, 0])) (.agg #[.int .i64 0, .int .i64 0])).run Tryz.prog W = .ok (.bool true) W := fun W => by kernel_rfl
  have heq2 : ∀ W, (binOp .eql 46 (.agg #[.int .i64 0, .int .i64 0]) (.agg #[.int .i64 0, .int .i64 0])).run Tryz.prog W = .ok (.bool true) W := fun W => by kernel_rfl
  have HB4 := Lib.hid hb4
  clear hB4 hb4 HB3
  go_wp2_with fail
  go_ret
  exact ⟨rfl, HB4.out⟩
end Go.Proofs.YtpgcghnlepnoiaaGreatDoor

/-
  States of a zoo as they are kept in a variable.
-/
namespace Go.Proofs.YtpgcghnlepnoiaaGreatDoor
open Go.RowKit

section
variable {G : Nat → Prop} {w0 w : World} {l : List Assn} {p : Nat} {z : ZS}
theorem zstateS_in (h : In G w0 (ZooA p z :: l) w) (hk : ZOk z) :
    Calls Tryz.prog 14 #[ptr p] w fun e w' => ∃ A1 c1 A2 c2 A3 c3, e = .returned (.agg #[.slice A1 (gensL z.ls).length c1, .slice A2 z.rows.length c2, .slice A3 z.B.length c3]) ∧ In G w0 (IntsA (.slice A1 (gensL z.ls).length c1) (gensL z.ls) :: RowsA (.slice A2 z.rows.length c2) z.rows :: RowB (.slice A3 z.B.length c3) z.B :: ZooA p z :: l) w' := by
  refine (zstate_in h hk).mono ?_
  rintro e w' ⟨gv, rv, bv, rfl, hI⟩
  obtain ⟨A1, c1, rfl, _⟩ := own_form hI.rowAt
  obtain ⟨A2, c2, rfl, _⟩ := own_form hI.swap.rowAt
  obtain ⟨A3, c3, rfl, _⟩ := own_form hI.third.rowAt
  exact ⟨A1, c1, A2, c2, A3, c3, rfl, hI⟩
theorem In.newState (h : In G w0 l w) (a b c : Value) : In G w0 (Box w.heap.size 26 #[a, b, c] :: l) (putVals (w.alloc (.cells #[.slice none 0 0, .slice none 0 0, .slice none 0 0] 26)) w.heap.size 0 [a, b, c]) :=
  (h.alloc 26 #[.slice none 0 0, .slice none 0 0, .slice none 0 0]).putV [a, b, c] rfl
end

end Go.Proofs.YtpgcghnlepnoiaaGreatDoor

/-
  The walk of the law ZooMay: whatever was done, the state is valid, and loading it restores it.
-/
namespace Go.Proofs.YtpgcghnlepnoiaaGreatDoor
open Go.RowKit


end Go.Proofs.YtpgcghnlepnoiaaGreatDoor
