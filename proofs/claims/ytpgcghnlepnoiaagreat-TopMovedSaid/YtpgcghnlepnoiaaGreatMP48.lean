/-
  Several texts in one (merged by a program of mine): ZooLoad, ZooAll, ZooKept, RunSerial, ZooUse, RunScript, TopMoved.
-/
import Derived.Test.YtpgcghnlepnoiaaGreatMP47
set_option linter.unusedVariables false
set_option linter.unusedSimpArgs false
set_option linter.unusedSectionVars false
/-
  The contract of zoo.Load, at a state of a zoo.
-/
namespace Go.Proofs.YtpgcghnlepnoiaaGreat
open Go.RowKit

/-! ### the plain law: the bonds one by one -/
def bondTo (z : ZS) (k : Nat) : ZS := ⟨z.ls, z.f, z.B.take k⟩
theorem sub_get {m m' : Fam} (hn : (mkeys m).Nodup) (hs : m'.Sublist m) {c p : Hd} (h : mget m' c = some p) : mget m c = some p :=
  mget_of_mem hn (hs.mem (mget_mem h))
theorem bondTo_ok {z : ZS} (h : ZOk z) (k : Nat) : ZOk (bondTo z k) := by
  have hs : (z.B.take k).Sublist z.B := List.take_sublist k z.B
  have hn : (mkeys (z.B.take k)).Nodup := h.fam.nodup.sublist (hs.map _)
  refine ⟨h.w, ⟨hn, h.fam.acyc.sub fun c p e => sub_get h.fam.nodup hs e⟩, ?_, fun b hb => h.lv b (hs.mem hb)⟩
  have hsr := ksort_sorted (fun b : Hd × Hd => b.1) z.B
  change List.Pairwise _ (bondsOf z.B) at hsr
  rw [h.srt] at hsr
  exact (ksort_of_sorted (fun b : Hd × Hd => b.1) (bond_inj (m := z.B.take k) hn) (List.Perm.refl _) (hsr.sublist hs)).symm
theorem bondTo_none {z : ZS} (h : ZOk z) {k : Nat} (hk : k < z.B.length) : mget (z.B.take k) z.B[k].1 = none := by
  cases e : mget (z.B.take k) z.B[k].1 with
  | none => rfl
  | some q =>
    exfalso
    have h1 := h.fam.nodup
    rw [← List.take_append_drop k z.B] at h1
    unfold mkeys at h1
    rw [List.map_append, List.nodup_append] at h1
    refine h1.2.2 z.B[k].1 (List.mem_map.2 ⟨_, mget_mem e, rfl⟩) z.B[k].1 (List.mem_map.2 ⟨z.B[k], ?_, rfl⟩) rfl
    rw [List.drop_eq_getElem_cons hk]
    exact List.mem_cons_self
theorem bondTo_adopt {z : ZS} (h : ZOk z) {k : Nat} (hk : k < z.B.length) : bondsOf (adoptR (z.B.take k) z.B[k].1 z.B[k].2).1 = z.B.take (k + 1) ∧ (adoptR (z.B.take k) z.B[k].1 z.B[k].2).2 = 0 := by
  have hg : mget z.B z.B[k].1 = some z.B[k].2 := mget_of_mem h.fam.nodup (List.getElem_mem hk)
  have hs : (z.B.take k).Sublist z.B := List.take_sublist k z.B
  have hno : ¬ (z.B[k].1 = z.B[k].2 ∨ Up (z.B.take k) z.B[k].2 z.B[k].1) := by
    rintro (e | e)
    · exact Up.irrefl h.fam.acyc (a := z.B[k].1) (.one (by rw [← e] at hg; exact hg))
    · exact Up.irrefl h.fam.acyc (.more hg (e.mono fun c p e => sub_get h.fam.nodup hs e))
  have hno2 := bondTo_none h hk
  unfold adoptR
  rw [if_neg hno]
  refine ⟨?_, rfl⟩
  have ok := bondTo_ok h k
  have ok1 := bondTo_ok h (k + 1)
  have e2 : bondsOf (z.B.take (k + 1)) = z.B.take (k + 1) := ok1.srt
  rw [← e2]
  have h5 := ok.fam.adopt z.B[k].1 z.B[k].2
  change FamOk (adoptR (z.B.take k) _ _).1 at h5
  unfold adoptR at h5
  rw [if_neg hno] at h5
  refine bonds_congr h5.nodup ok1.fam.nodup fun x => ?_
  have e3 : mput (z.B.take k) z.B[k].1 z.B[k].2 = z.B.take (k + 1) := by
    rw [List.take_succ_eq_append_getElem hk]
    unfold mput
    rw [if_neg]
    intro ha
    obtain ⟨q, hq, e⟩ := List.any_eq_true.1 ha
    have := mget_of_mem ok.fam.nodup (m := z.B.take k) (x := q.1) (v := q.2) hq
    rw [of_decide_eq_true e, hno2] at this
    cases this
  rw [e3]
theorem row_put_new {w : World} {g o n : Nat} {x : Array Value} (t : TypeId) (zs xs : List Int) (h : row? w g o n = some x) : row? (putRow (w.alloc (.cells (ints zs) t)) w.heap.size 0 xs) g o n = some x := row_after (below_new_put w t zs xs) h
section
variable {G : Nat → Prop} {w0 w : World} {l : List Assn} {p : Nat} {z : ZS} {gv rv bv : Value}
theorem rowB_at {w : World} {v : Value} {hs : List (Hd × Hd)} (h : w.ownsRow 0 148 4 v hs.length (hs.flatMap bC)) : ∃ A c, v = .slice A hs.length c ∧ hs.length ≤ c ∧ c ≤ maxLen ∧ ∀ k, (hk : k < hs.length) → ∃ g, A = some ⟨g, 0, none⟩ ∧
    row? w g (k * 4) 4 = some (ints [hs[k].1.1, hs[k].1.2, hs[k].2.1, hs[k].2.2]) := by
  obtain ⟨A, c, rfl, hc1, hc2, hA⟩ := own_form h
  refine ⟨A, c, rfl, hc1, hc2, fun k hk => ?_⟩
  obtain ⟨g, rfl⟩ := hA (by omega)
  have hr := own_row h hk
  rw [flat_at (fun x => (rfl : (bC x).length = 4)) hs k hk] at hr
  exact ⟨g, rfl, hr⟩
set_option maxHeartbeats 4000000 in
set_option maxRecDepth 100000 in
theorem zload_in (h : In G w0 (IntsA gv (gensL z.ls) :: RowsA rv z.rows :: RowB bv z.B :: l) w) (hk : ZOk z) :
    Calls Tryz.prog 40 #[.agg #[gv, rv, bv]] w fun e w' => ∃ p, e = .returned (.tuple #[ptr p, .int .i64 0]) ∧ In G w0 (ZooA p z :: IntsA gv (gensL z.ls) :: RowsA rv z.rows :: RowB bv z.B :: l) w' := by
  have H0 := Lib.hid h
  have HK := Lib.hid hk
  obtain ⟨Ab, cb, rfl, hcb1, hcb2, _⟩ := rowB_at h.third.rowAt
  clear h hk
  go_enter Tryz.func40, Tryz.ntmps40
  go_upto_region 1 with (fail)
  refine wp_abs (In G w0 (Box w.heap.size 48 #[gv, rv, .slice Ab z.B.length cb] :: IntsA gv (gensL z.ls) :: RowsA rv z.rows :: RowB (.slice Ab z.B.length cb) z.B :: l)) (H0.out.alloc 48 #[gv, rv, .slice Ab z.B.length cb]) ?_
  generalize w.heap.size = sb
  intro w1 hI1
  have c0 : w1.cell? ⟨sb, 0, none⟩ = some gv := hI1.blk.cell 0
  have c1 : w1.cell? ⟨sb, 1, none⟩ = some rv := hI1.blk.cell 1
  have HI1 : Hid (In G w0 (IntsA gv (gensL z.ls) :: RowsA rv z.rows :: RowB (.slice Ab z.B.length cb) z.B :: Box sb 48 #[gv, rv, .slice Ab z.B.length cb] :: l) w1) := hI1.to4
  clear hI1 H0
  go_wp2_with fail
  refine (wload_in HI1.out HK.out.w).mono ?_
  rintro e w2 ⟨wp, rfl, hI2⟩
  have HI2 := Lib.hid hI2
  clear hI2 HI1 c0 c1
  go_wp2_with fail
  refine (fnew_in HI2.out).mono ?_
  rintro e w3 ⟨fp, rfl, hI3⟩
  go_upto_region 5 with (fail)
  refine wp_abs (In G w0 (ZooA w3.heap.size (bondTo z 0) :: IntsA gv (gensL z.ls) :: RowsA rv z.rows :: RowB (.slice Ab z.B.length cb) z.B :: Box sb 48 #[gv, rv, .slice Ab z.B.length cb] :: l)) (In.shutZoo (z := bondTo z 0) (m := []) bonds_nil ((hI3.alloc 42 #[ptr wp, ptr fp]).perm ((List.Perm.swap _ _ _).cons _))) ?_
  generalize w3.heap.size = p
  clear hI3 HI2
  intro w4 hI4
  have c2 : w4.cell? ⟨sb, 2, none⟩ = some (.slice Ab z.B.length cb) := (hI4.nth 4 (by simp)).blk.cell 2
  have HI4 := Lib.hid hI4
  clear hI4
  go_wp2_with fail
  go_loopw [31] (fun i w' => ∃ k : Nat, k ≤ z.B.length ∧ i = .int .i64 k ∧ In G w0 (ZooA p (bondTo z k) :: IntsA gv (gensL z.ls) :: RowsA rv z.rows :: RowB (.slice Ab z.B.length cb) z.B :: Box sb 48 #[gv, rv, .slice Ab z.B.length cb] :: l) w') (fun i _ => z.B.length - (intOf i).toNat)
  case atStart => exact ⟨0, Nat.zero_le _, rfl, HI4.out⟩
  case round =>
    clear HI4 c2
    obtain ⟨k, hk, rfl, hI⟩ := hrel
    by_cases hlt : k < z.B.length
    · have hki : (k : Int) < z.B.length := by omega
      obtain ⟨A', c', e0, _, hkc, hrow⟩ := rowB_at hI.fourth.rowAt
      injection e0 with e1 e2 e3
      subst e1; subst e3
      obtain ⟨g, rfl, q1⟩ := hrow k hlt
      have HLV := Lib.hid (HK.out.lv z.B[k] (List.getElem_mem hlt))
      have HNO := Lib.hid (bondTo_none HK.out hlt)
      have HAD := Lib.hid (bondTo_adopt HK.out hlt)
      have hkc' : (z.B.length : Int) ≤ cb := by omega
      have HOK := Lib.hid (bondTo_ok HK.out k)
      have HI := Lib.hid hI
      clear hrow e2 hI
      generalize z.B[k] = b at *
      obtain ⟨⟨x1, x2⟩, ⟨y1, y2⟩⟩ := b
      go_upto_region 8 with (fail)
      refine wp_abs (In G w0 (ZooA p (bondTo z k) :: Box wr.heap.size 148 (ints [x1, x2, y1, y2]) :: IntsA gv (gensL z.ls) :: RowsA rv z.rows :: RowB (.slice (some ⟨g, 0, none⟩) z.B.length cb) z.B :: Box sb 48 #[gv, rv, .slice (some ⟨g, 0, none⟩) z.B.length cb] :: l)) (HI.out.struct 148 [0, 0, 0, 0] [x1, x2, y1, y2] rfl).swap ?_
      generalize wr.heap.size = bb
      generalize hL : IntsA gv (gensL z.ls) :: RowsA rv z.rows :: RowB (.slice (some ⟨g, 0, none⟩) z.B.length cb) z.B :: Box sb 48 #[gv, rv, .slice (some ⟨g, 0, none⟩) z.B.length cb] :: l = L at *
      intro w5 hI5
      have q2 : row? w5 bb 0 2 = some (ints [x1, x2]) := hI5.swap.blk.row_ints 0 2 (by simp)
      have q3 : row? w5 bb 2 2 = some (ints [y1, y2]) := hI5.swap.blk.row_ints 2 2 (by simp)
      have HI5 := Lib.hid hI5
      have hbs : ∀ W, (Instr.buildSlice 88 2 #[(0, .agg (ints [x1, x2])), (1, .agg (ints [y1, y2]))]).run Tryz.prog W = .ok (.slice (some ⟨W.heap.size, 0, none⟩) 2 2) (W.alloc (.cells (ints [x1, x2, y1, y2]) 30)) := fun W => by kernel_rfl
      have HB : Hid (In G w0 (ZooA p (bondTo z k) :: RowH (.slice (some ⟨w5.heap.size, 0, none⟩) 2 2) [(x1, x2), (y1, y2)] :: Box bb 148 (ints [x1, x2, y1, y2]) :: L) (w5.alloc (.cells (ints [x1, x2, y1, y2]) 30))) := (HI5.out.newLit 30 2 2 [.int .i64 x1, .int .i64 x2, .int .i64 y1, .int .i64 y2] rfl (by decide)).swap
      clear hI5 q1 HI
      go_wp2_with fail
      refine (zlive_in HB.out (by simp)).mono ?_
      rintro e w6 ⟨rfl, hI6⟩
      have hlv : liveZ (bondTo z k) [(x1, x2), (y1, y2)] = true := by
        have h1 := HLV.out
        unfold liveZ
        simp only [List.all_cons, List.all_nil, Bool.and_true]
        exact Bool.and_eq_true_iff.2 h1
      rw [if_pos hlv]
      have hI6 := hI6.swap.drop
      obtain ⟨wp, fp, m, hm, hf, ha, hI7⟩ := hI6.openZoo
      have q2 : row? w6 bb 0 2 = some (ints [x1, x2]) := hI6.swap.blk.row_ints 0 2 (by simp)
      have q3 : row? w6 bb 2 2 = some (ints [y1, y2]) := hI6.swap.blk.row_ints 2 2 (by simp)
      have c1 : w6.cell? ⟨p, 1, none⟩ = some (ptr fp) := hI7.blk.cell 1
      obtain ⟨fb, hsee⟩ := (In.third hI7).seeFam
      have HPAR : Hid (∀ W, Below w6.heap.size w6 W → Calls Tryz.prog 66 #[ptr fp, hdV (x1, x2)] W fun e w' => e = .returned (.tuple #[.agg (ints [0, 0]), .bool false]) ∧ Below W.heap.size W w') := fun W hW => by
        have h1 := fparent_any (x1, x2) W (hsee.after hW)
        have h2 : parentR m (x1, x2) = ((0, 0), false) := by
          have h3 : mget (bondTo z k).B (x1, x2) = none := HNO.out
          unfold parentR
          rw [ha, h3]
          rfl
        rw [h2] at h1
        exact h1
      have HI6 := Lib.hid hI6
      clear hI6 hI7 HB HI5 hlv hsee
      have HD : Hid (Below w6.heap.size w6 w6.drew) := (Below.refl _ _).drew
      have HDA : Hid (∀ ob, Below w6.heap.size w6 (w6.alloc ob).drew) := fun ob => ((Below.refl _ _).alloc (Nat.le_refl _) ob).drew
      have HBN : Hid (p < w6.heap.size ∧ bb < w6.heap.size) := by
        obtain ⟨wp, fp, m, _, _, _, hI7⟩ := HI6.out.openZoo
        exact ⟨hI7.blk.lt, HI6.out.swap.blk.lt⟩
      have HIA : Hid (∀ w10, Below (w6.alloc (.cells #[.int .i64 0, .int .i64 0] 30)).drew.heap.size (w6.alloc (.cells #[.int .i64 0, .int .i64 0] 30)).drew w10 → In G w0 (Box w6.heap.size 30 (ints [0, 0]) :: ZooA p (bondTo z k) :: Box bb 148 (ints [x1, x2, y1, y2]) :: L) w10) := fun w10 hb => (HI6.out.alloc 30 (ints [0, 0])).drew.below hb
      clear q3 ha hm hf
      go_upto_region 11 with (fail)
      go_region_held3 (fun W => W.cell? ⟨p, 1, none⟩ = some (ptr fp) ∧ row? W bb 0 2 = some (ints [x1, x2]))
        (refine ⟨?_, ?_⟩ <;> (first | assumption | (refine cell_new_alloc _ ?_; assumption) | (refine row_alloc _ ?_; assumption) | (refine cell_put_new _ [0, 0] _ ?_; assumption) | (refine row_put_new _ [0, 0] _ ?_; assumption) | (refine cell_far (by have := HBN.out; omega) ?_; assumption) | (refine row_far (by have := HBN.out; omega) ?_; assumption)))
        (first
          | (go_at_call 66; refine (HPAR.out _ HD.out).mono ?_; rintro e w10 ⟨rfl, hb10⟩; have s4 := cell_after (w := w6.drew) hb10 c1; have s5 := row_after (w := w6.drew) hb10 q2; have HI7 := Lib.hid (HI6.out.drew.below hb10); clear hb10)
          | (go_at_call 66; refine (HPAR.out _ (HDA.out _)).mono ?_; rintro e w10 ⟨rfl, hb10⟩; have s4 := cell_after hb10 (cell_new_alloc (w := w6) _ c1); have s5 := row_after hb10 (row_alloc (w := w6) _ q2); have HI7 := Lib.hid (HIA.out _ hb10); have f3 := HI7.out.blk.fits 0 2 (by rw [ints_size]; simp); clear hb10))
      all_goals
        (first
          | (obtain ⟨W9, hW9⟩ : ∃ W9, putRow (w10.alloc (.cells #[Value.int .i64 0, Value.int .i64 0] 30)) w10.heap.size 0 [0, 0] = W9 := ⟨_, rfl⟩; rw [hW9]; have hI8 : In G w0 (ZooA p (bondTo z k) :: Box bb 148 (ints [x1, x2, y1, y2]) :: L) W9 := (by rw [← hW9]; exact (HI7.out.struct 30 [0, 0] [0, 0] rfl).drop))
          | (obtain ⟨W9, hW9⟩ : ∃ W9, putRow w10 w6.heap.size 0 [0, 0] = W9 := ⟨_, rfl⟩; rw [hW9]; have hI8 : In G w0 (ZooA p (bondTo z k) :: Box bb 148 (ints [x1, x2, y1, y2]) :: L) W9 := (by rw [← hW9]; exact (HI7.out.put_all [0, 0] rfl).drop)))
        clear HI7 HI6 HIA hW9
        obtain ⟨wp2, fp2, m2, hm2, hf2, ha2, hI9⟩ := hI8.openZoo
        have k2 : row? W9 bb 0 2 = some (ints [x1, x2]) := hI8.swap.blk.row_ints 0 2 (by simp)
        have k3 : row? W9 bb 2 2 = some (ints [y1, y2]) := hI8.swap.blk.row_ints 2 2 (by simp)
        have k1 : W9.cell? ⟨p, 1, none⟩ = some (ptr fp2) := hI9.blk.cell 1
        have HA2 := Lib.hid (ha2.adopt (x1, x2) (y1, y2))
        have HBE : Hid (bondsOf (adoptR m2 (x1, x2) (y1, y2)).1 = z.B.take (k + 1) ∧ (adoptR m2 (x1, x2) (y1, y2)).2 = 0) := by
          have h1 := HAD.out
          exact ⟨(bonds_congr (hf2.adopt _ _).nodup (HOK.out.fam.adopt _ _).nodup HA2.out.1).trans h1.1, HA2.out.2.trans h1.2⟩
        have HI9 := Lib.hid (In.third hI9)
        clear hI8 hI9 hm2 hf2 ha2
        go_upto_region 14 with (fail)
        go_still_tail 8, (by kernel_rfl)
        change wpList _ _ _ _ _ W9.drew
        have HI10 := Lib.hid HI9.out.drew
        clear HI9 k1 k2 k3
        generalize W9.drew = w11 at *
        go_wp2_with fail
        refine (fadopt_in HI10.out (x1, x2) (y1, y2)).mono ?_
        rintro e w12 ⟨rfl, hI11⟩
        rw [HBE.out.2]
        have hI12 : In G w0 (ZooA p (bondTo z (k + 1)) :: Box bb 148 (ints [x1, x2, y1, y2]) :: L) w12 := In.shutZoo (z := bondTo z (k + 1)) HBE.out.1 hI11.third.third
        have HI12 := Lib.hid (hI12.swap.drop)
        clear hI11 hI12 HI10 hbs
        have hB60 := HK.out.len
        go_wp2_with fail
        go_roundw
        case rel => exact ⟨k + 1, by omega, by go_num, by rw [hL]; exact HI12.out⟩
        case measure => simp [intOf]; omega
    · have : k = z.B.length := by omega
      subst this
      have HF : Hid (bondTo z z.B.length = z) := by unfold Hid bondTo; rw [List.take_length]
      rw [HF.out] at hI
      have HI := Lib.hid hI
      clear hI
      go_wp2_with fail
      go_ret2
      exact ⟨p, rfl, (HI.out.reorder 5 [4, 0, 1, 2, 3] rfl (by simp)).drop⟩
end

end Go.Proofs.YtpgcghnlepnoiaaGreat

/-
  The contract of zoo.All: all of the operations, or none.
-/
namespace Go.Proofs.YtpgcghnlepnoiaaGreat
open Go.RowKit

/-! ### what is meant -/
section
variable {sp : List Hd} {x : Hd} {o : OpM}
theorem meant_pos (h : 0 ≤ x.1) : meantH sp x = some x ∧ meantT sp x = x := by
  unfold meantH meantT
  exact ⟨if_pos h, if_neg (by omega)⟩
theorem meant_far (h : x.1 < 0) (h' : x.1 < -(sp.length : Int)) : meantH sp x = none := by
  unfold meantH
  rw [if_neg (by omega), if_pos h']
theorem meant_at (h : x.1 < 0) (h' : ¬ x.1 < -(sp.length : Int)) : ∃ k : Nat, ∃ hk : k < sp.length, -x.1 - 1 = (k : Int) ∧ meantH sp x = some sp[k] ∧ meantT sp x = sp[k] := by
  refine ⟨(-x.1 - 1).toNat, by omega, by omega, ?_, ?_⟩
  · unfold meantH
    rw [if_neg (by omega), if_neg h', List.getD_eq_getElem?_getD, List.getElem?_eq_getElem (by omega)]; rfl
  · unfold meantT
    rw [if_pos (by omega), List.getD_eq_getElem?_getD, List.getElem?_eq_getElem (by omega)]; rfl
theorem setO_same {off : Nat} (h : off = 10 ∨ off = 12) : setO o off (handO o off) = o := by
  rcases h with rfl | rfl <;> rfl
theorem meanK_succ (sp : List Hd) (o : OpM) (offs : List Nat) (j : Nat) (hj : j < offs.length) : meanK sp o (offs.take (j + 1)) = setO (meanK sp o (offs.take j)) offs[j] (meantT sp (handO (meanK sp o (offs.take j)) offs[j])) := by
  rw [List.take_succ_eq_append_getElem hj, meanK_append]; rfl
end

/-- what All answers -/
def AllPost (z : ZS) (os : List OpM) (n e : Int) (R : ZS → Prop) : Prop :=
  (∃ z' sp, os.length ≤ 80 ∧ runA (z, []) os = some (z', sp) ∧ n = os.length ∧ e = 0 ∧ R z') ∨ (e ≠ 0 ∧ 0 ≤ n ∧ n ≤ os.length ∧ (os.length ≤ 80 → runA (z, []) os = none) ∧ R z)

section
variable {G : Nat → Prop} {w0 w : World} {l : List Assn} {p : Nat} {z : ZS} {B : Nat} {A : Option Addr} {c : Nat} {os : List OpM}
theorem ptrs_at {w : World} {v : Value} {ob : Nat} {offs : List Nat} {E : TypeId} (h : w.ownsRow 0 E 1 v offs.length (offs.map fun o => Value.pointer (some ⟨ob, o, none⟩))) : ∃ A c, v = .slice A offs.length c ∧ offs.length ≤ c ∧ c ≤ maxLen ∧ ∀ k, (hk : k < offs.length) → ∃ g, A = some ⟨g, 0, none⟩ ∧
    w.cell? ⟨g, k, none⟩ = some (.pointer (some ⟨ob, offs[k], none⟩)) := by
  obtain ⟨A, c, rfl, hc1, hc2, hA⟩ := own_form h
  refine ⟨A, c, rfl, hc1, hc2, fun k hk => ?_⟩
  obtain ⟨g, rfl⟩ := hA (by omega)
  have hr := own_row h hk
  refine ⟨g, rfl, ?_⟩
  rw [Nat.mul_one] at hr
  unfold row? at hr
  split at hr
  · rename_i cs t fr hg
    split at hr
    · rename_i hn
      injection hr with hr
      rw [cell_of_row w g k cs t fr hg]
      have h1 := congrArg (fun a : Array Value => a[0]?) hr
      simp only [Array.getElem?_extract] at h1
      rw [if_pos (by omega)] at h1
      rw [Nat.add_zero] at h1
      rw [h1]
      simp [hk]
    · cases hr
  · cases hr
set_option maxHeartbeats 4000000 in
set_option maxRecDepth 100000 in
theorem zall_in (hO : OpsAt G w0 B A os) (hlen : os.length ≤ 1099511627776) (h8 : ∀ o ∈ os, o.b.v.length = 8) (hk : ZOk z) (h : In G w0 (ZooA p z :: l) w) :
    Calls Tryz.prog 22 #[ptr p, .slice A os.length c] w fun e w' => ∃ n e' : Int, e = .returned (.tuple #[.int .i64 n, .int .i64 e']) ∧ AllPost z os n e' fun z' => In G w0 (ZooA p z' :: l) w' := by
  have H0 := Lib.hid h
  have HK := Lib.hid hk
  have HO : Hid (OpsAt G w0 B A os) := hO
  have H8 := Lib.hid h8
  obtain ⟨i0, hi0, hz0, hz1, hz2⟩ := info_parts handle_partsF
  clear h hk hO h8
  go_enter Tryz.func22, Tryz.ntmps22
  by_cases hL : 80 < os.length
  · have hL' : (80 : Int) < os.length := by omega
    go_wp2_with fail
    go_ret2
    exact ⟨0, 2, rfl, Or.inr ⟨by decide, by decide, by omega, fun h => by omega, H0.out⟩⟩
  have hL' : ¬ (80 : Int) < os.length := by omega
  go_wp2_with fail
  refine (zstate_in H0.out HK.out).mono ?_
  rintro e w1 ⟨gv, rv, bv, rfl, hI1⟩
  have HI1 := Lib.hid hI1
  clear hI1 H0
  go_wp2_with fail
  refine (zload_in HI1.out HK.out).mono ?_
  rintro e w2 ⟨np, rfl, hI2⟩
  have HI2 := Lib.hid (hI2.swap.drop.swap.drop.swap.drop)
  clear hI2 HI1
  go_wp2_with fail
  go_loopw [26, 8] (fun i sv w' => ∃ (k : Nat) (zk : ZS) (sp : List Hd), k ≤ os.length ∧ i = .int .i64 k ∧ runA (z, []) (os.take k) = some (zk, sp) ∧ sp.length ≤ k ∧ In G w0 (ZooA np zk :: RowH sv sp :: ZooA p z :: l) w') (fun i _ _ => os.length - (intOf i).toNat)
  case atStart => exact ⟨0, z, [], Nat.zero_le _, rfl, rfl, Nat.zero_le _, (HI2.out.nilRow 30 2).swap⟩
  case round =>
    clear HI2
    obtain ⟨k, zk, sp, hk, rfl, hrun, hspl, hI⟩ := hrel
    obtain ⟨As, cs, rfl, hcs1, hcs2, _⟩ := rowH_at hI.swap.rowAt
    by_cases hlt : k < os.length
    · have hki : (k : Int) < os.length := by omega
      obtain ⟨b, o, rfl, hbl, q1⟩ := (HO.out hI.bare).at_ hlt
      have HV8 : Hid (os[k].b.v.length = 8) := H8.out _ (List.getElem_mem hlt)
      have h16 : (OpM.list os[k]).length = 16 := OpM.len HV8.out
      have HOK : Hid (ZOk zk) := runA_ok (s := (z, [])) HK.out (fun o ho => H8.out o (List.mem_of_mem_take ho)) hrun
      have HSTOP : Hid (errA (zk, sp) os[k] ≠ 0 → runA (z, []) os = none) := runA_stop hlt hrun
      have HSNOC : Hid (runA (z, []) (os.take (k + 1)) = stepA (zk, sp) os[k]) := runA_snoc hlt hrun
      have hsp80 : sp.length ≤ 80 := by omega
      have HI := Lib.hid hI
      clear hI hrun
      generalize os[k] = op at *
      go_upto_region 8 with (fail)
      refine wp_abs (In G w0 (Box wr.heap.size 35 (ints op.list) :: ZooA np zk :: RowH (.slice As sp.length cs) sp :: ZooA p z :: l)) (HI.out.struct 35 [0, 0, 0, 0, 0, 0, 0, 0, 0, 0, 0, 0, 0, 0, 0, 0] op.list h16) ?_
      generalize wr.heap.size = ob
      intro w3 hI3
      have HI3 := Lib.hid hI3
      clear hI3 q1 HI
      go_wp2_with fail
      refine (looks_in HI3.out).mono ?_
      rintro e w4 ⟨lv, rfl, hI4⟩
      obtain ⟨Ap, cp, rfl, hcp1, hcp2, _⟩ := ptrs_at hI4.rowAt
      have hol := offs_len op.d
      have HI4 := Lib.hid hI4.swap
      clear hI4 HI3
      go_wp2_with fail
      go_loopw [33] (fun i w' => ∃ j : Nat, j ≤ (offsZ op.d).length ∧ i = .int .i64 j ∧ (∀ t, t < j → (ht : t < (offsZ op.d).length) → meantH sp (handO op (offsZ op.d)[t]) ≠ none) ∧ In G w0 (Box ob 35 (ints (meanK sp op ((offsZ op.d).take j)).list) :: PtrsA (.slice Ap (offsZ op.d).length cp) ob (offsZ op.d) :: ZooA np zk :: RowH (.slice As sp.length cs) sp :: ZooA p z :: l) w') (fun i _ => (offsZ op.d).length - (intOf i).toNat)
      case atStart => exact ⟨0, Nat.zero_le _, rfl, fun t ht => by omega, HI4.out⟩
      case round =>
        clear HI4
        obtain ⟨j, hj, rfl, hms, hI⟩ := hrel
        by_cases hjt : j < (offsZ op.d).length
        · have hji : (j : Int) < (offsZ op.d).length := by omega
          obtain ⟨A', c', e0, _, hjc, hrow⟩ := ptrs_at hI.swap.rowAt
          injection e0 with e1 e2 e3
          subst e1; subst e3
          obtain ⟨g, rfl, q1⟩ := hrow j hjt
          have hoff := offs_mem (List.getElem_mem hjt)
          have HKEPT : Hid (handO (meanK sp op ((offsZ op.d).take j)) (offsZ op.d)[j] = handO op (offsZ op.d)[j]) := hand_kept sp op j hjt
          have HSUC : Hid (meanK sp op ((offsZ op.d).take (j + 1)) = setO (meanK sp op ((offsZ op.d).take j)) (offsZ op.d)[j] (meantT sp (handO (meanK sp op ((offsZ op.d).take j)) (offsZ op.d)[j]))) := meanK_succ sp op _ j hjt
          have HNONE : Hid (meantH sp (handO op (offsZ op.d)[j]) = none → looksZ sp op = none) := looks_none hjt
          have HMS : Hid (meantH sp (handO op (offsZ op.d)[j]) ≠ none → ∀ t, t < j + 1 → (ht : t < (offsZ op.d).length) → meantH sp (handO op (offsZ op.d)[t]) ≠ none) := fun h t ht hh => by
            by_cases e : t = j
            · subst e; exact h
            · exact hms t (by omega) hh
          have hv8 : (meanK sp op ((offsZ op.d).take j)).b.v.length = 8 := by rw [(meanK_b _ _ _).1]; exact HV8.out
          have hm16 := OpM.len hv8
          have q2 : row? wr ob (offsZ op.d)[j] 2 = some (ints [(handO (meanK sp op ((offsZ op.d).take j)) (offsZ op.d)[j]).1, (handO (meanK sp op ((offsZ op.d).take j)) (offsZ op.d)[j]).2]) := by
            rw [hI.blk.row_ints _ 2 (by rw [hm16]; rcases hoff with h | h <;> rw [h] <;> omega), op_hand hv8 hoff]
          have HSET : Hid (∀ x : Hd, (meanK sp op ((offsZ op.d).take j)).list.take (offsZ op.d)[j] ++ [x.1, x.2] ++ (meanK sp op ((offsZ op.d).take j)).list.drop ((offsZ op.d)[j] + 2) = (setO (meanK sp op ((offsZ op.d).take j)) (offsZ op.d)[j] x).list) := fun x => op_set hv8 hoff x
          have HSAME : Hid (∀ o : OpM, setO o (offsZ op.d)[j] (handO o (offsZ op.d)[j]) = o) := fun o => setO_same hoff
          have qf : fits wr ob (offsZ op.d)[j] 2 = true := hI.blk.fits _ 2 (by rw [ints_size, hm16]; rcases hoff with h | h <;> rw [h] <;> omega)
          rw [HKEPT.out] at q2 HSUC
          have HI := Lib.hid hI
          have HSAMEJ := Lib.hid (HSAME.out (meanK sp op ((offsZ op.d).take j)))
          rw [HKEPT.out] at HSAMEJ
          clear hI hrow e2 HKEPT hms hv8 hm16 HSAME
          generalize hoffs : (offsZ op.d)[j] = off at *
          generalize hx : handO op off = x at *
          obtain ⟨s, g2⟩ := x
          have q3 := cell_row0 q2
          by_cases hs : 0 ≤ s
          · have hmp : meantH sp (s, g2) = some (s, g2) ∧ meantT sp (s, g2) = (s, g2) := meant_pos hs
            have HST := Lib.hid hmp
            have hs' : (0 : Int) ≤ s := hs
            clear hmp
            go_wp2_with fail
            go_roundw
            case rel => exact ⟨j + 1, by omega, by go_num, HMS.out (by rw [HST.out.1]; simp), by rw [HSUC.out, HST.out.2, HSAMEJ.out]; exact HI.out⟩
            case measure => simp [intOf]; omega
          · have hs' : ¬ (0 : Int) ≤ s := hs
            have hs0 : s < 0 := by omega
            have hwl : wrap64 (-(sp.length : Int)) = -(sp.length : Int) := IntWalk.wrap64_in _ (by omega)
            by_cases hf : s < -(sp.length : Int)
            · have HNL : Hid (looksZ sp op = none) := HNONE.out (meant_far hs0 hf)
              clear q2 qf
              go_wp2_with fail
              go_ret2
              have HN : Hid (runA (z, []) os = none) := HSTOP.out (by unfold errA; rw [HNL.out]; exact (by decide : (5 : Int) ≠ 0))
              exact ⟨k, 5, rfl, Or.inr ⟨by decide, by omega, by omega, fun _ => HN.out, HI.out.drop.drop.drop.drop⟩⟩
            · obtain ⟨i, hi, hsi, hm1, hm2⟩ := meant_at (sp := sp) (x := (s, g2)) hs0 hf
              have hws : wrap64 (-s) = -s := IntWalk.wrap64_in _ (by omega)
              have hwd : wrap64 (-s - 1) = (i : Int) := by rw [hsi]; exact IntWalk.wrap64_in _ (by omega)
              have hi0 : (0 : Int) ≤ (i : Int) := by omega
              have hi1 : (i : Int) < sp.length := by omega
              obtain ⟨As', cs', e0, _, _, hrow⟩ := rowH_at (HI.out.nth 3 (by simp)).rowAt
              injection e0 with e1 e2 e3
              subst e1; subst e3
              obtain ⟨gs, rfl, q5⟩ := hrow i hi
              have hcs' : (sp.length : Int) ≤ cs := by omega
              have HM1 : Hid (meantH sp (s, g2) ≠ none) := Lib.hid (by rw [hm1]; exact Option.some_ne_none _)
              have HM2 := Lib.hid hm2
              clear hm1 hm2 hrow e2 hoff HNONE
              generalize sp[i] = y at *
              obtain ⟨y1, y2⟩ := y
              have hii : i = (-s).toNat - 1 := by omega
              have q6 : row? wr gs (((-s).toNat - 1) * 2) 2 = some (ints [y1, y2]) := by rw [← hii]; exact q5
              clear hii
              have HI5 := HI.out.put off [y1, y2]
              rw [show off + [y1, y2].length = off + 2 from rfl, HSET.out (y1, y2)] at HI5
              have HI5 := Lib.hid HI5
              go_wp2_with fail
              clear qf q2 q3 q1 q5 q6 HSET hs hs' hs0 hwl hf hws hwd hsi hi0 hi1
              go_roundw
              case rel => exact ⟨j + 1, by omega, by go_num, HMS.out HM1.out, by rw [HSUC.out, HM2.out]; exact HI5.out⟩
              case measure => simp [intOf]; omega
        · have : j = (offsZ op.d).length := by omega
          subst this
          rw [List.take_length] at hI
          have HLK : Hid (looksZ sp op = some (meanK sp op (offsZ op.d))) := looks_all fun t ht => hms t ht ht
          have HMB := Lib.hid (meanK_b sp (offsZ op.d) op)
          generalize meanK sp op (offsZ op.d) = o2 at *
          have hI6 := hI.swap.drop
          have hv8 : o2.b.v.length = 8 := by rw [HMB.out.1]; exact HV8.out
          have HV2 := Lib.hid hv8
          have q2 : row? wr ob 0 16 = some (ints o2.list) := hI6.blk.row_all (OpM.len hv8)
          have HI6 := Lib.hid hI6.swap
          clear hI hI6 hms hv8
          go_wp2_with fail
          refine (zdo_in HI6.out HOK.out o2 HV2.out).mono ?_
          rintro e w7 ⟨rfl, hI7⟩
          have HERR : Hid (errA (zk, sp) op = (doZ zk o2).2.2) := by unfold Hid errA; rw [HLK.out]; rfl
          have HNEXT : Hid (errA (zk, sp) op = 0 → stepA (zk, sp) op = some ((doZ zk o2).1, if op.d = 1 then sp ++ [(doZ zk op).2.1] else sp)) := fun h => by
            unfold stepA
            rw [if_pos h]
            unfold nextA
            rw [HLK.out]; rfl
          have HI7 := Lib.hid hI7
          clear hI7 HI6 q2
          have HONE : Hid (op.d = 1 → o2 = op) := fun h => by
            have h1 := HLK.out
            rw [looks_one h] at h1
            injection h1 with h1
            exact h1.symm
          generalize hr : doZ zk o2 = r at *
          have HR := Lib.hid hr
          clear hr
          obtain ⟨z2, ⟨h1, h2⟩, E⟩ := r
          simp only at HERR HNEXT HI7 ⊢
          go_upto_region 17 with (fail)
          refine wp_abs (In G w0 (Box w7.heap.size 30 (ints [h1, h2]) :: ZooA np z2 :: Box ob 35 (ints o2.list) :: RowH (.slice As sp.length cs) sp :: ZooA p z :: l)) (HI7.out.struct 30 [0, 0] [h1, h2] rfl) ?_
          generalize w7.heap.size = hb
          intro w8 hI8
          have q4 : row? w8 hb 0 2 = some (ints [h1, h2]) := hI8.blk.row_all rfl
          have q5 : w8.cell? ⟨ob, 0, none⟩ = some (.int .i64 o2.d) := hI8.third.blk.cell 0
          rw [HMB.out.2] at q5
          have HI8 := Lib.hid hI8
          clear hI8 HI7
          by_cases he : E = 0
          rotate_left
          · have he' : (E != 0) = true := by simpa using he
            go_wp2_with fail
            go_ret2
            exact ⟨k, E, rfl, Or.inr ⟨he, by omega, by omega, fun _ => HSTOP.out (by rw [HERR.out]; exact he), HI8.out.drop.drop.drop.drop⟩⟩
          subst he
          have HSTEP := Lib.hid (HNEXT.out HERR.out)
          clear HNEXT HSTOP
          generalize hopd : op.d = d at *
          by_cases hd1 : d = 1
          · have hd : (d == 1) = true := by simp [hd1]
            have HE1 : Hid ((doZ zk op).2.1 = (h1, h2)) := by
              have h3 := HONE.out hd1
              have h4 := HR.out
              rw [h3] at h4
              unfold Hid
              rw [h4]
            have HSP : Hid (runA (z, []) (os.take (k + 1)) = some (z2, sp ++ [(h1, h2)])) := by
              unfold Hid
              rw [HSNOC.out, HSTEP.out, if_pos hd1, HE1.out]
            have HI9 : Hid (In G w0 (RowH (.slice As sp.length cs) sp :: Box hb 30 (ints [h1, h2]) :: ZooA np z2 :: Box ob 35 (ints o2.list) :: ZooA p z :: l) w8) := HI8.out.fourth
            have HO := Lib.hid HI9.out.rowAt
            clear hd1 HONE HR HSNOC HSTEP HI8 HMB HLK HERR
            go_wp2_with (at_builtin; go_loud (refine wpList_append1_at rfl _ _ 88 rfl 0 30 i0 _ 2 16 Tryz.underlying88 hi0 hz0 hz1 hz2 rfl (by decide) (.slice As sp.length cs) sp.length (sp.flatMap hC) rfl HO.out [.int .i64 h1, .int .i64 h2] rfl rfl (by simp [Value.oneCell']) ?_ ?_ (Nat.zero_le _) ?_))
            case refine_1 => unfold maxLen; omega
            case refine_2 => omega
            intro v' w9 ho hg hor
            have hI10 := In.appendH (x := (h1, h2)) HI9.out ho hg hor
            have HI10 := Lib.hid hI10
            clear ho hg hor hI10 HI9 HO q4 q5
            go_wp2_with fail
            go_roundw
            case rel => exact ⟨k + 1, z2, sp ++ [(h1, h2)], by omega, by go_num, HSP.out, by simp; omega, HI10.out.swap.drop.third.drop.swap⟩
            case measure => simp [intOf]; omega
          · have hd : (d == 1) = false := by simp [hd1]
            have HSP : Hid (runA (z, []) (os.take (k + 1)) = some (z2, sp)) := by
              unfold Hid
              rw [HSNOC.out, HSTEP.out, if_neg hd1]
            clear hd1 HONE HR HSNOC HSTEP HMB HLK HERR
            go_wp2_with fail
            clear q4 q5
            go_roundw
            case rel => exact ⟨k + 1, z2, sp, by omega, by go_num, HSP.out, by omega, HI8.out.drop.swap.drop⟩
            case measure => simp [intOf]; omega
    · have : k = os.length := by omega
      subst this
      rw [List.take_length] at hrun
      obtain ⟨wp2, fp2, m2, hm2, hf2, ha2, hI1⟩ := hI.openZoo
      have hI1' : In G w0 (ZooA p z :: zBox np wp2 fp2 :: WorldA wp2 zk.ls zk.f :: FamA fp2 m2 :: RowH (.slice As sp.length cs) sp :: l) wr := hI1.reorder 5 [4, 0, 1, 2, 3] rfl (by simp)
      obtain ⟨wp, fp, m, hm, hf, ha, hI2⟩ := hI1'.openZoo
      have c1 : row? wr np 0 2 = some #[ptr wp2, ptr fp2] := by
        rw [hI1.blk.row 0 2 (by simp)]; rfl
      have c2 : fits wr p 0 2 = true := hI2.blk.fits 0 2 (by simp)
      have HI3 := Lib.hid (hI2.putV [ptr wp2, ptr fp2] rfl)
      have HM2 := Lib.hid hm2
      have HRUN := Lib.hid hrun
      clear hI hI1 hI1' hI2 hm2 hf2 ha2 hm hf ha hrun
      go_wp2_with fail
      go_ret2
      refine ⟨os.length, 0, rfl, Or.inl ⟨zk, sp, by omega, HRUN.out, rfl, rfl, ?_⟩⟩
      exact (In.shutZoo HM2.out HI3.out.swap.drop.swap.drop.swap.drop).swap.drop
end

end Go.Proofs.YtpgcghnlepnoiaaGreat

/-
  All at operations of one's own; the closed fact 'kept'.
-/
namespace Go.Proofs.YtpgcghnlepnoiaaGreat
open Go.RowKit

section
variable {G : Nat → Prop} {w0 w : World} {l : List Assn} {p g : Nat} {z : ZS} {c : Nat} {os : List OpM} {t : TypeId}
theorem flat_ints {α : Type} (f : α → List Int) (xs : List α) (k n : Nat) (hf : ∀ x ∈ xs, (f x).length = n) (hk : k < xs.length) : ((xs.flatMap f).drop (k * n)).take n = f xs[k] := by
  induction xs generalizing k with
  | nil => simp at hk
  | cons x xs ih =>
    have hx := hf x (by simp)
    cases k with
    | zero => rw [Nat.zero_mul, List.drop_zero, List.flatMap_cons, List.take_left' hx]; rfl
    | succ k =>
      rw [List.flatMap_cons, Nat.succ_mul, Nat.add_comm, ← List.drop_drop, List.drop_left' hx]
      exact ih k (fun y hy => hf y (by simp [hy])) (by simpa using hk)
theorem flat_ints_len {α : Type} (f : α → List Int) (xs : List α) (n : Nat) (hf : ∀ x ∈ xs, (f x).length = n) : (xs.flatMap f).length = xs.length * n := by
  induction xs with
  | nil => simp
  | cons x xs ih => rw [List.flatMap_cons, List.length_append, hf x (by simp), ih fun y hy => hf y (by simp [hy]), List.length_cons]; rw [Nat.succ_mul]; omega
theorem OpsAt.of_blk {F : Nat → Prop} (h : Blk w g t (ints (os.flatMap OpM.list))) (h8 : ∀ o ∈ os, o.b.v.length = 8) (hF : ¬ F g) : OpsAt F w (g + 1) (some ⟨g, 0, none⟩) os := by
  intro W hI
  have hlt := h.lt
  have hB : Blk W g t (ints (os.flatMap OpM.list)) := (hI.old hlt hF).trans h
  refine ⟨fun r hr => by obtain ⟨x, hx, rfl⟩ := List.mem_map.1 hr; exact OpM.len (h8 x hx), fun h0 => ⟨g, 0, rfl, by omega, fun k r hr => ?_⟩⟩
  rw [List.getElem?_map] at hr
  obtain ⟨x, hx, rfl⟩ := Option.map_eq_some_iff.1 hr
  obtain ⟨hk, rfl⟩ := List.getElem?_eq_some_iff.1 hx
  have hl16 : ∀ o ∈ os, (OpM.list o).length = 16 := fun o ho => OpM.len (h8 o ho)
  have hll := flat_ints_len OpM.list os 16 hl16
  have hkm : (k + 1) * 16 ≤ os.length * 16 := Nat.mul_le_mul_right 16 hk
  rw [Nat.zero_add, hB.row_ints (k * 16) 16 (by rw [hll]; omega), flat_ints OpM.list os k 16 hl16 hk]
theorem In.back {F F1 F2 : Nat → Prop} {w' : World} {A' : Assn} (h2 : Sep l w F2) (h3 : ∀ k, F1 k → ¬ F2 k) (h4 : ∀ k, F1 k ∨ F2 k → (F k ∨ w0.heap.size ≤ k) ∧ k < w.heap.size) (ho : Only F w0 w) (ha : A'.at_ w' (Plus F1 w w')) (ho' : Only F1 w w') : In F w0 (A' :: l) w' := by
  refine ⟨⟨_, F2, ha, h2.frame ho' fun k a b => h3 k b a, fun k a b => ?_, fun k h => ?_⟩, ho.trans' ho' fun k hk hf => ?_⟩
  · rcases a with a | a
    · exact h3 k a b
    · have := (h4 k (Or.inr b)).2; omega
  · have hs := ho'.size
    have hs0 := ho.size
    rcases h with (h | h) | h
    · have := h4 k (Or.inl h); exact ⟨this.1, by omega⟩
    · exact ⟨Or.inr (by omega), h.2⟩
    · have := h4 k (Or.inr h); exact ⟨this.1, by omega⟩
  · have := h4 k (Or.inl hf)
    rcases this.1 with h | h
    · exact h
    · omega
theorem zall_own (h8 : ∀ o ∈ os, o.b.v.length = 8) (hlen : os.length ≤ 1099511627776) (hk : ZOk z) (h : In G w0 (ZooA p z :: Box g t (ints (os.flatMap OpM.list)) :: l) w) :
    Calls Tryz.prog 22 #[ptr p, .slice (some ⟨g, 0, none⟩) os.length c] w fun e w' => ∃ n e' : Int, e = .returned (.tuple #[.int .i64 n, .int .i64 e']) ∧ AllPost z os n e' fun z' => In G w0 (ZooA p z' :: Box g t (ints (os.flatMap OpM.list)) :: l) w' := by
  obtain ⟨⟨F1, F2, h1, h2, h3, h4⟩, ho⟩ := h
  have h2' := h2
  obtain ⟨F3, F4, ⟨hb, hg⟩, _, _, h6⟩ := h2'
  have hF : ¬ F1 g := fun e => h3 g e (h6 g (Or.inl hg))
  refine (zall_in (c := c) (OpsAt.of_blk hb h8 hF) hlen h8 hk (In.one (A := ZooA p z) h1)).mono ?_
  rintro e w' ⟨n, e', rfl, hp⟩
  have hback : ∀ z', In F1 w [ZooA p z'] w' → In G w0 (ZooA p z' :: Box g t (ints (os.flatMap OpM.list)) :: l) w' := fun z' hz => In.back h2 h3 h4 ho hz.done.1 hz.done.2
  refine ⟨n, e', rfl, ?_⟩
  rcases hp with ⟨z', sp, a, b, c, d, e⟩ | ⟨a, b, c, d, e⟩
  · exact Or.inl ⟨z', sp, a, b, c, d, hback z' e⟩
  · exact Or.inr ⟨a, b, c, d, hback z e⟩
end

def kOp : OpM := ⟨1, ⟨0, [0, 0, 0, 0, 0, 0, 0, 0]⟩, (0, 0), (0, 0), 0, 0⟩
def kOps : List OpM := [kOp, kOp, ⟨5, ⟨0, [0, 0, 0, 0, 0, 0, 0, 0]⟩, (-2, 0), (-1, 0), 0, 0⟩]
theorem kept_runs : ∃ z', runA (zoo0, []) kOps = some (z', [(0, 0), (1, 0)]) ∧ mget z'.B (1, 0) = some (0, 0) := by
  have s1 : spawnW zoo0.ls zoo0.f kOp.b = (([(0, true)], updB (fun _ => none) 0 (some (0, kOp.b))), (0, 0), 0) := rfl
  have s2 : spawnW [(0, true)] (updB (fun _ => none) 0 (some (0, kOp.b))) kOp.b = (([(0, true), (0, true)], updB (updB (fun _ => none) 0 (some (0, kOp.b))) 1 (some (0, kOp.b))), (1, 0), 0) := rfl
  have d1 : doZ zoo0 kOp = (⟨[(0, true)], updB (fun _ => none) 0 (some (0, kOp.b)), []⟩, (0, 0), 0) := by
    rw [doZ_1 _ _ rfl, s1]; rfl
  have d2 : doZ ⟨[(0, true)], updB (fun _ => none) 0 (some (0, kOp.b)), []⟩ kOp = (⟨[(0, true), (0, true)], updB (updB (fun _ => none) 0 (some (0, kOp.b))) 1 (some (0, kOp.b)), []⟩, (1, 0), 0) := by
    rw [doZ_1 _ _ rfl]
    simp only [s2]
  have hno : ¬ ((1, 0) = ((0, 0) : Hd) ∨ Up [] (0, 0) (1, 0)) := by
    rintro (e | e)
    · cases e
    · cases e with
      | one h => simp [mget] at h
      | more h _ => simp [mget] at h
  have ha : adoptR [] (1, 0) (0, 0) = ([((1, 0), (0, 0))], 0) := by
    unfold adoptR
    rw [if_neg hno]; rfl
  have hb : bondsOf [((1, 0), ((0, 0) : Hd))] = [((1, 0), (0, 0))] := by unfold bondsOf; simp
  have d3 : doZ ⟨[(0, true), (0, true)], updB (updB (fun _ => none) 0 (some (0, kOp.b))) 1 (some (0, kOp.b)), []⟩ ⟨5, ⟨0, [0, 0, 0, 0, 0, 0, 0, 0]⟩, (1, 0), (0, 0), 0, 0⟩ = (⟨[(0, true), (0, true)], updB (updB (fun _ => none) 0 (some (0, kOp.b))) 1 (some (0, kOp.b)), [((1, 0), (0, 0))]⟩, (0, 0), 0) := by
    rw [doZ_5 _ _ rfl]
    have : adoptZ ⟨[(0, true), (0, true)], updB (updB (fun _ => none) 0 (some (0, kOp.b))) 1 (some (0, kOp.b)), []⟩ (1, 0) (0, 0) = (⟨[(0, true), (0, true)], updB (updB (fun _ => none) 0 (some (0, kOp.b))) 1 (some (0, kOp.b)), [((1, 0), (0, 0))]⟩, 0) := by
      unfold adoptZ
      rw [if_pos ⟨rfl, rfl⟩]
      simp only [ha, hb]
    simp only [this]
  have l1 : looksZ [] kOp = some kOp := rfl
  have l2 : looksZ [(0, 0)] kOp = some kOp := rfl
  have l3 : looksZ [(0, 0), (1, 0)] ⟨5, ⟨0, [0, 0, 0, 0, 0, 0, 0, 0]⟩, (-2, 0), (-1, 0), 0, 0⟩ = some ⟨5, ⟨0, [0, 0, 0, 0, 0, 0, 0, 0]⟩, (1, 0), (0, 0), 0, 0⟩ := rfl
  refine ⟨⟨[(0, true), (0, true)], updB (updB (fun _ => none) 0 (some (0, kOp.b))) 1 (some (0, kOp.b)), [((1, 0), (0, 0))]⟩, ?_, rfl⟩
  have t1 : stepA (zoo0, []) kOp = some (⟨[(0, true)], updB (fun _ => none) 0 (some (0, kOp.b)), []⟩, [(0, 0)]) := by
    unfold stepA errA nextA
    rw [l1]
    simp only [Option.map_some, Option.getD_some, d1]
    rfl
  have t2 : stepA (⟨[(0, true)], updB (fun _ => none) 0 (some (0, kOp.b)), []⟩, [(0, 0)]) kOp = some (⟨[(0, true), (0, true)], updB (updB (fun _ => none) 0 (some (0, kOp.b))) 1 (some (0, kOp.b)), []⟩, [(0, 0), (1, 0)]) := by
    unfold stepA errA nextA
    rw [l2]
    simp only [Option.map_some, Option.getD_some, d2]
    rfl
  have t3 : stepA (⟨[(0, true), (0, true)], updB (updB (fun _ => none) 0 (some (0, kOp.b))) 1 (some (0, kOp.b)), []⟩, [(0, 0), (1, 0)]) ⟨5, ⟨0, [0, 0, 0, 0, 0, 0, 0, 0]⟩, (-2, 0), (-1, 0), 0, 0⟩ = some (⟨[(0, true), (0, true)], updB (updB (fun _ => none) 0 (some (0, kOp.b))) 1 (some (0, kOp.b)), [((1, 0), (0, 0))]⟩, [(0, 0), (1, 0)]) := by
    unfold stepA errA nextA
    rw [l3]
    simp only [Option.map_some, Option.getD_some, d3]
    rfl
  unfold kOps
  rw [runA, t1, Option.bind_some, runA, t2, Option.bind_some, runA, t3]
  rfl
end Go.Proofs.YtpgcghnlepnoiaaGreat

/-
  The contracts of run.rows and run.Serial.
-/
namespace Go.Proofs.YtpgcghnlepnoiaaGreat
open Go.RowKit

/-- systems that are read, wherever the walk stands -/
def SysAt (G : Nat → Prop) (w0 : World) (B : Nat) (A : Option Addr) (ss : List Sys) : Prop := ∀ {W : World}, In G w0 [] W → SysIn W B A ss
theorem SysAt.of_arg {w : World} {A : Option Addr} {ss : List Sys} (h : SysIn w w.heap.size A ss) : SysAt (fun _ => False) w w.heap.size A ss := fun hI => h.below hI.below0
theorem SysAt.of_blk {F : Nat → Prop} {w : World} {g : Nat} {t : TypeId} {ss : List Sys} (h : Blk w g t (ints (ss.flatMap Sys.list))) (hF : ¬ F g) : SysAt F w (g + 1) (some ⟨g, 0, none⟩) ss := by
  intro W hI
  have hlt := h.lt
  have hB : Blk W g t (ints (ss.flatMap Sys.list)) := (hI.old hlt hF).trans h
  refine ⟨fun r hr => by obtain ⟨x, hx, rfl⟩ := List.mem_map.1 hr; rfl, fun h0 => ⟨g, 0, rfl, by omega, fun k r hr => ?_⟩⟩
  rw [List.getElem?_map] at hr
  obtain ⟨x, hx, rfl⟩ := Option.map_eq_some_iff.1 hr
  obtain ⟨hk, rfl⟩ := List.getElem?_eq_some_iff.1 hx
  have hll := flat_ints_len Sys.list ss 7 (fun _ _ => rfl)
  have hkm : (k + 1) * 7 ≤ ss.length * 7 := Nat.mul_le_mul_right 7 hk
  rw [Nat.zero_add, hB.row_ints (k * 7) 7 (by rw [hll]; omega), flat_ints Sys.list ss k 7 (fun _ _ => rfl) hk]
theorem firstErr_zero : ∀ {l : List Int}, firstErr l = 0 → ∀ e ∈ l, e = 0
  | [], _, _, h => by cases h
  | x :: l, h, e, he => by
    unfold firstErr at h
    split at h
    · rename_i hx
      rcases List.mem_cons.1 he with rfl | he
      · exact hx
      · exact firstErr_zero h e he
    · rename_i hx; exact absurd h hx
theorem plan_ok {ss : List Sys} (h : (planRes ss).2 = 0) : (∀ s ∈ ss, sysErr s = 0) ∧ ss.length ≤ 20 := by
  unfold planRes at h
  split at h
  · cases h
  · rename_i hl
    split at h
    · rename_i he
      exact ⟨fun s hs => firstErr_zero he _ (List.mem_map.2 ⟨s, hs, rfl⟩), by omega⟩
    · rename_i he; exact absurd h he
/-- the first j rows of one system -/
def midZ (z : ZS) (s : Sys) (j : Nat) : ZS := ⟨z.ls, rowsSys z.f s (z.rows.take j), z.B⟩
theorem midZ_zero (z : ZS) (s : Sys) : midZ z s 0 = z := rfl
theorem midZ_all {z : ZS} (h : ZOk z) (s : Sys) : midZ z s z.rows.length = sysZ z s := by
  unfold midZ
  rw [List.take_length]
  unfold ZS.rows
  rw [rowsSys_all h.w]; rfl
theorem midZ_succ {z : ZS} (s : Sys) {j : Nat} (hj : j < z.rows.length) : midZ z s (j + 1) = ⟨z.ls, updB (midZ z s j).f z.rows[j].h.1 (some (z.rows[j].h.2, doSys z.rows[j].b s)), z.B⟩ := by
  unfold midZ
  rw [List.take_succ_eq_append_getElem hj, rowsSys_snoc]
theorem midZ_at {z : ZS} (h : ZOk z) (s : Sys) {j : Nat} (hj : j < z.rows.length) : (midZ z s j).f z.rows[j].h.1 = some (z.rows[j].h.2, z.rows[j].b) := by
  unfold midZ
  simp only
  rw [rowsSys_not]
  · exact (mem_allW h.w).1 (List.getElem_mem hj)
  · intro r hr e
    obtain ⟨i, hi, rfl⟩ := List.mem_iff_getElem.1 hr
    rw [List.length_take] at hi
    have := List.pairwise_iff_getElem.1 (all_sorted z.ls z.f) i j (show i < z.rows.length by omega) hj (by omega)
    rw [List.getElem_take] at e
    unfold sLt at this
    change z.rows[i].h.1 < z.rows[j].h.1 at this
    omega
theorem midZ_ok {z : ZS} (h : ZOk z) (s : Sys) : ∀ j, j ≤ z.rows.length → ZOk (midZ z s j) := by
  intro j
  induction j with
  | zero => intro _; exact h
  | succ j ih =>
    intro hj
    have h1 := ih (by omega)
    have hat := midZ_at h s (show j < z.rows.length by omega)
    have hb := h1.w.bo _ _ _ hat
    have hl := (h1.w.lv _ _).2 ⟨_, hat⟩
    rw [midZ_succ s (show j < z.rows.length by omega)]
    exact ⟨h1.w.upd hl ⟨doSys_ok _ _ hb.2 hb.1, by rw [doSys_len]; exact hb.2⟩, h.fam, h.srt, h.lv⟩
theorem doSys_far (b : Beast) (s : Sys) : ∀ j, j ∉ kinds b.k.toNat → (doSys b s).v.getD j 0 = b.v.getD j 0 := by
  intro j hj
  refine doSys_not b s j fun hm => hj ?_
  have := (mem_wl b s j).1 hm
  exact (mem_kinds _ _).2 ⟨this.1, this.2.1⟩
section
variable {G : Nat → Prop} {w0 w : World} {l : List Assn} {p : Nat} {z : ZS} {B : Nat} {A : Option Addr} {c : Nat} {ss : List Sys}
set_option maxHeartbeats 1000000 in
set_option maxRecDepth 100000 in
theorem rrows_in (h : In G w0 (ZooA p z :: l) w) (hk : ZOk z) :
    Calls Tryz.prog 43 #[ptr p] w fun e w' => ∃ A c, e = .returned (.slice A z.rows.length c) ∧ In G w0 (RowsA (.slice A z.rows.length c) z.rows :: ZooA p z :: l) w' := by
  have HK := Lib.hid hk
  obtain ⟨wp, fp, m, hm, hf, ha, hI2⟩ := h.openZoo
  obtain ⟨sp, hI3⟩ := hI2.swap.worldS
  have c0 : w.cell? ⟨p, 0, none⟩ = some (ptr wp) := hI2.blk.cell 0
  have HM := Lib.hid hm
  have HI3 := Lib.hid hI3
  clear h hI2 hI3 hm hf ha hk
  have HR := Lib.hid (rowsS_in HI3.out HK.out.w zeroQ)
  rw [zeroQ_err, if_pos rfl, rows_all matchZero, zeroQ_list] at HR
  go_enter Tryz.func43, Tryz.ntmps43
  go_wp2_with fail
  refine HR.out.mono ?_
  rintro e w2 ⟨rv, rfl, hI⟩
  obtain ⟨A3, c3, rfl, _, _, _⟩ := own_form hI.rowAt
  have HI : Hid (In G w0 (RowsA (.slice A3 z.rows.length c3) z.rows :: ZooA p z :: l) w2) := (In.shutZoo (z := z) HM.out (hI.swap.worldOf.reorder 4 [2, 0, 3, 1] rfl (by simp))).swap
  clear hI HR HI3
  go_wp2_with fail
  go_ret
  exact ⟨_, _, rfl, HI.out⟩
set_option maxHeartbeats 4000000 in
set_option maxRecDepth 100000 in
theorem rserial_in (hS : SysAt G w0 B A ss) (hB : B ≤ w0.heap.size) (hlen : ss.length ≤ maxLen) (h : In G w0 (ZooA p z :: l) w) (hk : ZOk z) :
    Calls Tryz.prog 23 #[ptr p, .slice A ss.length c] w fun e w' => e = .returned (.int .i64 (planRes ss).2) ∧ In G w0 (ZooA p (if (planRes ss).2 = 0 then runZ z ss else z) :: l) w' := by
  have HS : Hid (SysAt G w0 B A ss) := hS
  have HK := Lib.hid hk
  have HI0 := Lib.hid h
  have hnm : (ss.length : Int) ≤ 9223372036854775807 := by unfold maxLen at hlen; omega
  have HP := Lib.hid (plan_any A c ss w (Chunks.more (hS h.bare) (by have := h.size; omega)) hlen)
  clear hS h hk hlen
  obtain ⟨pn, hpn⟩ : ∃ pn, (planRes ss).2 = pn := ⟨_, rfl⟩
  rw [hpn] at HP ⊢
  have HPN := Lib.hid hpn
  clear hpn
  obtain ⟨zo, hzo⟩ : ∃ zo, zo = (if pn = 0 then runZ z ss else z) := ⟨_, rfl⟩
  rw [← hzo]
  have HZO := Lib.hid hzo
  clear hzo
  go_enter Tryz.func23, Tryz.ntmps23
  go_wp2_with fail
  refine HP.out.mono ?_
  rintro e w2 ⟨v, rfl, ho, hb2⟩
  have HI2 := Lib.hid (HI0.out.below hb2)
  clear ho hb2 HP HI0
  by_cases he : pn = 0
  rotate_left
  · have hne : (pn != 0) = true := by simp [he]
    have HZ : Hid (zo = z) := HZO.out.trans (if_neg he)
    clear he HZO
    go_wp2_with fail
    go_ret
    exact ⟨rfl, by rw [HZ.out]; exact HI2.out⟩
  have HZ0 : Hid (zo = runZ z ss) := HZO.out.trans (if_pos he)
  clear HZO
  subst he
  have HOK := Lib.hid (plan_ok HPN.out).1
  have h20 := (plan_ok HPN.out).2
  have hi20 : (ss.length : Int) ≤ 20 := by omega
  go_wp2_with fail
  go_loopw [21] (fun i w' => ∃ k : Nat, k ≤ ss.length ∧ i = .int .i64 k ∧ In G w0 (ZooA p (runZ z (ss.take k)) :: l) w') (fun i _ => ss.length - (intOf i).toNat)
  case atStart => exact ⟨0, Nat.zero_le _, rfl, HI2.out⟩
  case round =>
    clear HI2
    obtain ⟨k, hk, rfl, hI⟩ := hrel
    by_cases hlt : k < ss.length
    · have hki : (k : Int) < ss.length := by omega
      obtain ⟨g, o, rfl, hgb, q1⟩ := (HS.out hI.bare).at_ hlt
      have e1 : ss.getD k zeroSys = ss[k] := by simp [List.getD, hlt]
      rw [e1] at q1
      have HSK := Lib.hid (HOK.out ss[k] (List.getElem_mem hlt))
      have HST := Lib.hid (runZ_succ z ss hlt)
      have HZ := Lib.hid (HK.out.run (ss.take k))
      have HI := Lib.hid hI
      clear hI e1
      generalize ss[k] = s at *
      generalize runZ z (ss.take k) = z1 at *
      go_upto_region 7 with (fail)
      refine wp_abs (In G w0 (Box wr.heap.size 54 (ints s.list) :: ZooA p z1 :: l)) (HI.out.struct 54 [0, 0, 0, 0, 0, 0, 0] s.list rfl) ?_
      generalize wr.heap.size = sb
      intro w3 hI3
      have HI3 := Lib.hid hI3.swap
      clear hI3 HI q1
      go_wp2_with fail
      refine (rrows_in HI3.out HZ.out).mono ?_
      rintro e w4 ⟨rA, rc, rfl, hI4⟩
      have HI4 : Hid (In G w0 (ZooA p (midZ z1 s 0) :: RowsA (.slice rA z1.rows.length rc) z1.rows :: Box sb 54 (ints s.list) :: l) w4) := hI4.swap
      have HMA := Lib.hid (midZ_all HZ.out s)
      have HMO : Hid (∀ j, j ≤ z1.rows.length → ZOk (midZ z1 s j)) := fun j => midZ_ok HZ.out s j
      have HMT : Hid (∀ j (hj : j < z1.rows.length), (midZ z1 s j).f z1.rows[j].h.1 = some (z1.rows[j].h.2, z1.rows[j].b)) := fun j hj => midZ_at HZ.out s hj
      have HMS : Hid (∀ j (hj : j < z1.rows.length), midZ z1 s (j + 1) = ⟨(midZ z1 s j).ls, updB (midZ z1 s j).f z1.rows[j].h.1 (some (z1.rows[j].h.2, doSys z1.rows[j].b s)), (midZ z1 s j).B⟩) := fun j hj => midZ_succ s hj
      have hr60 : z1.rows.length ≤ 60 := allW_len HZ.out.w
      have hri : (z1.rows.length : Int) ≤ 60 := by omega
      clear hI4 HI3
      generalize z1.rows = rs at *
      go_wp2_with fail
      go_loopw [28] (fun i w' => ∃ j : Nat, j ≤ rs.length ∧ i = .int .i64 j ∧ In G w0 (ZooA p (midZ z1 s j) :: RowsA (.slice rA rs.length rc) rs :: Box sb 54 (ints s.list) :: l) w') (fun i _ => rs.length - (intOf i).toNat)
      case atStart => exact ⟨0, Nat.zero_le _, rfl, HI4.out⟩
      case round =>
        clear HI4
        obtain ⟨j, hj, rfl, hI⟩ := hrel
        by_cases hlt2 : j < rs.length
        · have hji : (j : Int) < rs.length := by omega
          have HOJ := Lib.hid (HMO.out j (by omega))
          have HAT := Lib.hid (HMT.out j hlt2)
          have HNX := Lib.hid (HMS.out j hlt2)
          obtain ⟨hbe, h8⟩ := HOJ.out.w.bo _ _ _ HAT.out
          obtain ⟨g2, rfl, q2⟩ := rowsAt_get hI.swap hlt2 h8
          have hl11 : (rs[j]).list.length = 11 := by simp [RowM.list, Beast.list, h8]
          have HI := Lib.hid hI
          clear hI
          generalize rs[j] = r at *
          generalize midZ z1 s j = zj at *
          obtain ⟨⟨x1, x2⟩, b⟩ := r
          simp only at h8 hbe HAT HNX
          have hb9 : b.list.length = 9 := by simp [Beast.list, h8]
          have HBE := Lib.hid hbe
          have H8 := Lib.hid h8
          clear hbe
          go_upto_region 10 with (fail)
          refine wp_abs (In G w0 (ZooA p zj :: Box wr.heap.size 57 (ints (RowM.list ⟨(x1, x2), b⟩)) :: RowsA (.slice (some ⟨g2, 0, none⟩) rs.length rc) rs :: Box sb 54 (ints s.list) :: l)) (HI.out.struct 57 [0, 0, 0, 0, 0, 0, 0, 0, 0, 0, 0] _ hl11).swap ?_
          generalize wr.heap.size = rb
          intro w5 hI5
          have HRB : Hid (∀ {W : World} {zz : ZS}, In G w0 (ZooA p zz :: Box rb 57 (ints (RowM.list ⟨(x1, x2), b⟩)) :: RowsA (.slice (some ⟨g2, 0, none⟩) rs.length rc) rs :: Box sb 54 (ints s.list) :: l) W → row? W rb 0 2 = some (ints [x1, x2]) ∧ row? W rb 2 9 = some (ints b.list) ∧ row? W sb 0 7 = some (ints s.list)) := fun {W zz} hW => by
            refine ⟨by rw [hW.swap.blk.row_ints 0 2 (by omega)]; rfl, ?_, hW.fourth.blk.row_all rfl⟩
            rw [hW.swap.blk.row_ints 2 9 (by omega)]
            show some (ints (b.list.take 9)) = _
            rw [List.take_of_length_le (by omega)]
          obtain ⟨s1, s2, s3⟩ := HRB.out hI5
          have HI5 := Lib.hid hI5
          clear hI5 q2 HI
          go_region_held3 (fun W => row? W rb 0 2 = some (ints [x1, x2]) ∧ row? W rb 2 9 = some (ints b.list) ∧ row? W sb 0 7 = some (ints s.list))
            (refine ⟨?_, ?_, ?_⟩ <;> assumption)
            (first
              | (go_at_call 44; refine (rput_in HI10.out HOJ.out x1 x2 b (doSys b s) HAT.out (doSys_k b s) (doSys_ok b s H8.out HBE.out) (by rw [doSys_len]; exact H8.out) (doSys_far b s)).mono ?_; rintro e w11 ⟨rfl, hI11⟩; obtain ⟨u1, u2, u3⟩ := HRB.out hI11; have HI11 := Lib.hid hI11; clear hI11)
              | (go_at_call 45; refine (do_any b s H8.out HBE.out HSK.out _).mono ?_; rintro e w10 ⟨rfl, hb10⟩; have HI10 := Lib.hid (HI5.out.drew.below hb10); obtain ⟨t1, t2, t3⟩ := HRB.out HI10.out; clear hb10))
          all_goals
            have HI12 : Hid (In G w0 (ZooA p (midZ z1 s (j + 1)) :: RowsA (.slice (some ⟨g2, 0, none⟩) rs.length rc) rs :: Box sb 54 (ints s.list) :: l) w11) := by
              rw [HNX.out]
              exact HI11.out.swap.drop
            clear HI11
            go_wp2_with fail
            go_roundw
            case rel => exact ⟨j + 1, by omega, by go_num, HI12.out⟩
            case measure => simp [intOf]; omega
        · have : j = rs.length := by omega
          subst this
          rw [HMA.out, ← HST.out] at hI
          have HI := Lib.hid hI.swap.drop.swap.drop
          clear hI
          go_wp2_with fail
          go_roundw
          case rel => exact ⟨k + 1, by omega, by go_num, HI.out⟩
          case measure => simp [intOf]; omega
    · have : k = ss.length := by omega
      subst this
      rw [List.take_length] at hI
      have HI := Lib.hid hI
      clear hI
      go_wp2_with fail
      go_ret
      exact ⟨rfl, by rw [HZ0.out]; exact HI.out⟩
end

end Go.Proofs.YtpgcghnlepnoiaaGreat

/-
  States of a zoo as they are kept in a variable.
-/
namespace Go.Proofs.YtpgcghnlepnoiaaGreat
open Go.RowKit

section
variable {G : Nat → Prop} {w0 w : World} {l : List Assn} {p : Nat} {z : ZS}
theorem zstateS_in (h : In G w0 (ZooA p z :: l) w) (hk : ZOk z) :
    Calls Tryz.prog 25 #[ptr p] w fun e w' => ∃ A1 c1 A2 c2 A3 c3, e = .returned (.agg #[.slice A1 (gensL z.ls).length c1, .slice A2 z.rows.length c2, .slice A3 z.B.length c3]) ∧ In G w0 (IntsA (.slice A1 (gensL z.ls).length c1) (gensL z.ls) :: RowsA (.slice A2 z.rows.length c2) z.rows :: RowB (.slice A3 z.B.length c3) z.B :: ZooA p z :: l) w' := by
  refine (zstate_in h hk).mono ?_
  rintro e w' ⟨gv, rv, bv, rfl, hI⟩
  obtain ⟨A1, c1, rfl, _⟩ := own_form hI.rowAt
  obtain ⟨A2, c2, rfl, _⟩ := own_form hI.swap.rowAt
  obtain ⟨A3, c3, rfl, _⟩ := own_form hI.third.rowAt
  exact ⟨A1, c1, A2, c2, A3, c3, rfl, hI⟩
theorem In.newState (h : In G w0 l w) (a b c : Value) : In G w0 (Box w.heap.size 48 #[a, b, c] :: l) (putVals (w.alloc (.cells #[.slice none 0 0, .slice none 0 0, .slice none 0 0] 48)) w.heap.size 0 [a, b, c]) :=
  (h.alloc 48 #[.slice none 0 0, .slice none 0 0, .slice none 0 0]).putV [a, b, c] rfl
end

end Go.Proofs.YtpgcghnlepnoiaaGreat

/-
  The contract of run.Script with no hands (one by one); the closed fact vivariumtop.works.
-/
namespace Go.Proofs.YtpgcghnlepnoiaaGreat
open Go.RowKit

/-- what Script answers -/
def ScriptPost (w : World) (os : List OpM) (ss : List Sys) (e : Ending) (w' : World) : Prop :=
  (∃ z sp gv rv bv, os.length ≤ 80 ∧ runA (zoo0, []) os = some (z, sp) ∧ (planRes ss).2 = 0 ∧ e = .returned (.tuple #[.agg #[gv, rv, bv], .int .i64 0]) ∧
    In (fun _ => False) w (IntsA gv (gensL z.ls) :: RowsA rv (runZ z ss).rows :: RowB bv z.B :: []) w') ∨
  (∃ n : Int, n ≠ 0 ∧ e = .returned (.tuple #[.agg #[.slice none 0 0, .slice none 0 0, .slice none 0 0], .int .i64 n]) ∧ Below w.heap.size w w' ∧ ((os.length ≤ 80 → runA (zoo0, []) os = none) ∨ (planRes ss).2 ≠ 0))
theorem runZ_ls (z : ZS) (ss : List Sys) : (runZ z ss).ls = z.ls ∧ (runZ z ss).B = z.B := by
  unfold runZ
  induction ss generalizing z with
  | nil => exact ⟨rfl, rfl⟩
  | cons s ss ih => exact ih (sysZ z s)
set_option maxHeartbeats 4000000 in
set_option maxRecDepth 100000 in
theorem rscript0_any (A A' : Option Addr) (c c' : Nat) (os : List OpM) (ss : List Sys) (w : World) (hO : OpsIn w w.heap.size A os) (hlen : os.length ≤ 1099511627776) (h8 : ∀ o ∈ os, o.b.v.length = 8) (hS : SysIn w w.heap.size A' ss) (hsl : ss.length ≤ maxLen) :
    Calls Tryz.prog 9 #[.slice A os.length c, .slice A' ss.length c', .int .i64 0] w (ScriptPost w os ss) := by
  have HO : Hid (OpsAt (fun _ => False) w w.heap.size A os) := OpsAt.of_arg hO
  have HS : Hid (SysAt (fun _ => False) w w.heap.size A' ss) := SysAt.of_arg hS
  have H8 := Lib.hid h8
  clear hO hS h8
  go_enter Tryz.func9, Tryz.ntmps9
  go_upto_region 1 with (fail)
  refine wp_abs (In (fun _ => False) w [Box w.heap.size 48 #[.slice none 0 0, .slice none 0 0, .slice none 0 0]]) ((In.nil w (fun _ => False)).alloc 48 _) ?_
  generalize w.heap.size = sb
  intro w1 hI1
  have HI1 := Lib.hid hI1
  clear hI1
  go_wp2_with fail
  refine (znew_in HI1.out).mono ?_
  rintro e w2 ⟨p, rfl, hI2⟩
  have HI2 := Lib.hid hI2
  clear hI2 HI1
  go_wp2_with fail
  refine (zall_in (c := c) HO.out hlen H8.out ZOk.nil HI2.out).mono ?_
  rintro e w3 ⟨n, en, rfl, hp⟩
  clear HI2
  have hfit : ∀ W (L : List Assn), In (fun _ => False) w (Box sb 48 #[.slice none 0 0, .slice none 0 0, .slice none 0 0] :: L) W → fits W sb 0 3 = true := fun W L h => h.blk.fits 0 3 (by simp)
  have HFIT := Lib.hid hfit
  clear hfit
  rcases hp with ⟨z, sp, h80, hr, rfl, rfl, hI3⟩ | ⟨hne, _, _, hno, hI3⟩
  rotate_left
  · have hn0 : (en == 0) = false := by simp [hne]
    have hn1 : (en != 0) = true := by simp [hne]
    have HN := Lib.hid hne
    have HNO := Lib.hid hno
    have HI3 := Lib.hid hI3.swap
    clear hne hno hI3
    have f1 := HFIT.out _ _ HI3.out
    go_wp2_with fail
    have HE := In.putV HI3.out [.slice none 0 0, .slice none 0 0, .slice none 0 0] rfl
    refine bodyPost_row_tmp rfl sb 48 _ (.int .i64 en) _ rfl rfl HE.blk Tryz.underlying48 rfl state_info rfl ?_
    exact Or.inr ⟨en, HN.out, rfl, HE.below0, Or.inl HNO.out⟩
  have HOKZ : Hid (ZOk z) := runA_ok (s := (zoo0, [])) (s' := (z, sp)) ZOk.nil H8.out hr
  have HR := Lib.hid hr
  have H80 := Lib.hid h80
  have HI3 := Lib.hid hI3
  clear hr h80 hI3
  go_wp2_with fail
  refine (rserial_in (c := c') HS.out (Nat.le_refl _) hsl HI3.out HOKZ.out).mono ?_
  rintro e w4 ⟨rfl, hI4⟩
  clear HI3
  by_cases hpn : (planRes ss).2 = 0
  rotate_left
  · have HPN := Lib.hid hpn
    have hn1 : ((planRes ss).2 != 0) = true := by simp [hpn]
    rw [if_neg hpn] at hI4
    have HI4 := Lib.hid hI4.swap
    clear hI4 hpn
    obtain ⟨pn, hpn⟩ : ∃ pn, (planRes ss).2 = pn := ⟨_, rfl⟩
    rw [hpn] at hn1 HPN ⊢
    have HPE := Lib.hid hpn
    clear hpn
    have f1 := HFIT.out _ _ HI4.out
    go_wp2_with fail
    have HE := In.putV HI4.out [.slice none 0 0, .slice none 0 0, .slice none 0 0] rfl
    refine bodyPost_row_tmp rfl sb 48 _ (.int .i64 pn) _ rfl rfl HE.blk Tryz.underlying48 rfl state_info rfl ?_
    exact Or.inr ⟨pn, HPN.out, rfl, HE.below0, Or.inr (by rw [HPE.out]; exact HPN.out)⟩
  rw [if_pos hpn] at hI4
  rw [hpn]
  have HPN := Lib.hid hpn
  have HI4 := Lib.hid hI4
  have HOK2 := Lib.hid (HOKZ.out.run ss)
  clear hI4 hpn
  go_wp2_with fail
  refine (zstateS_in HI4.out HOK2.out).mono ?_
  rintro e w5 ⟨A1, c1, A2, c2, A3, c3, rfl, hI5⟩
  have HI5 : Hid (In (fun _ => False) w (Box sb 48 #[.slice none 0 0, .slice none 0 0, .slice none 0 0] :: _) w5) := hI5.reorder 5 [4, 0, 1, 2, 3] rfl (by simp)
  clear hI5 HI4
  have f1 := HFIT.out _ _ HI5.out
  go_wp2_with fail
  have HE := In.putV HI5.out [.slice A1 (gensL (runZ z ss).ls).length c1, .slice A2 (runZ z ss).rows.length c2, .slice A3 (runZ z ss).B.length c3] rfl
  refine bodyPost_row_tmp rfl sb 48 _ (.int .i64 0) _ rfl rfl HE.blk Tryz.underlying48 rfl state_info rfl ?_
  refine Or.inl ⟨z, sp, _, _, _, H80.out, HR.out, HPN.out, rfl, ?_⟩
  rw [← (runZ_ls z ss).1, ← (runZ_ls z ss).2]
  exact (HE.drop.fourth).drop
def wOp : OpM := ⟨1, ⟨3, [0, 0, 0, 0, 0, 0, 0, 0]⟩, (0, 0), (0, 0), 0, 0⟩
def wSys : Sys := ⟨⟨0, 0, 0⟩, 0, 2, 1, 7⟩
theorem works_runs : runA (zoo0, []) [wOp] = some (⟨[(0, true)], updB (fun _ => none) 0 (some (0, wOp.b)), []⟩, [(0, 0)]) := by
  have s1 : spawnW zoo0.ls zoo0.f wOp.b = (([(0, true)], updB (fun _ => none) 0 (some (0, wOp.b))), (0, 0), 0) := rfl
  have d1 : doZ zoo0 wOp = (⟨[(0, true)], updB (fun _ => none) 0 (some (0, wOp.b)), []⟩, (0, 0), 0) := by
    rw [doZ_1 _ _ rfl, s1]; rfl
  have l1 : looksZ [] wOp = some wOp := rfl
  have t1 : stepA (zoo0, []) wOp = some (⟨[(0, true)], updB (fun _ => none) 0 (some (0, wOp.b)), []⟩, [(0, 0)]) := by
    unfold stepA errA nextA
    rw [l1]
    simp only [Option.map_some, Option.getD_some, d1]
    rfl
  rw [runA, t1]
  rfl
theorem works_plan : (planRes [wSys]).2 = 0 := by decide
theorem works_rows : (runZ ⟨[(0, true)], updB (fun _ => none) 0 (some (0, wOp.b)), []⟩ [wSys]).rows = [⟨(0, 0), ⟨3, [0, 7, 0, 0, 0, 0, 0, 0]⟩⟩] := by rfl
set_option maxHeartbeats 2000000 in
set_option maxRecDepth 100000 in
theorem works_any (w : World) : Calls Tryz.prog 4 #[] w fun e w' => e = .returned (.bool true) ∧ Below w.heap.size w w' := by
  have hbs : ∀ W, (Instr.buildSlice 22 1 #[(0, .agg (ints [1, 3, 0, 0, 0, 0, 0, 0, 0, 0, 0, 0, 0, 0, 0, 0]))]).run Tryz.prog W = .ok (.slice (some ⟨W.heap.size, 0, none⟩) 1 1) (W.alloc (.cells (ints ([wOp].flatMap OpM.list)) 35)) := fun W => by kernel_rfl
  have hbs2 : ∀ W, (Instr.buildSlice 55 1 #[(0, .agg (ints [0, 0, 0, 0, 2, 1, 7]))]).run Tryz.prog W = .ok (.slice (some ⟨W.heap.size, 0, none⟩) 1 1) (W.alloc (.cells (ints ([wSys].flatMap Sys.list)) 54)) := fun W => by kernel_rfl
  have h8 : ∀ o ∈ [wOp], o.b.v.length = 8 := by intro o ho; rw [List.mem_singleton] at ho; rw [ho]; rfl
  have hI : In (fun _ => False) w [Box (w.heap.size + 1) 54 (ints ([wSys].flatMap Sys.list)), Box w.heap.size 35 (ints ([wOp].flatMap OpM.list))] ((w.alloc (.cells (ints ([wOp].flatMap OpM.list)) 35)).alloc (.cells (ints ([wSys].flatMap Sys.list)) 54)) := by
    have := ((In.nil w (fun _ => False)).alloc 35 (ints ([wOp].flatMap OpM.list))).alloc 54 (ints ([wSys].flatMap Sys.list))
    rw [World.size_alloc] at this
    exact this
  have hO := OpsAt.of_blk (F := fun _ => False) hI.swap.blk h8 (fun h => h) (In.nil _ _)
  have hS := SysAt.of_blk (F := fun _ => False) hI.blk (fun h => h) (In.nil _ _)
  have HSC := Lib.hid (rscript0_any (some ⟨w.heap.size, 0, none⟩) (some ⟨w.heap.size + 1, 0, none⟩) 1 1 [wOp] [wSys] _ (Chunks.more hO (by simp [World.size_alloc])) (by decide) h8 (Chunks.more hS (by simp [World.size_alloc])) (by decide))
  have HB := Lib.hid hI.below0
  clear hI hO hS h8
  go_enter Tryz.func4, Tryz.ntmps4
  go_wp2_with fail
  refine HSC.out.mono ?_
  rintro e w2 (⟨z, sp, gv, rv, bv, _, hr, _, rfl, hI2⟩ | ⟨_, _, _, _, hno⟩)
  rotate_left
  · rcases hno with h | h
    · rw [works_runs] at h
      cases h (by decide)
    · exact absurd works_plan h
  rw [works_runs] at hr
  injection hr with hr
  injection hr with hz hs
  subst hz
  rw [works_rows] at hI2
  obtain ⟨W2, hb2, hI2⟩ : ∃ W2, Below w.heap.size w W2 ∧ In (fun _ => False) W2 (IntsA gv (gensL [(0, true)]) :: RowsA rv [⟨(0, 0), ⟨3, [0, 7, 0, 0, 0, 0, 0, 0]⟩⟩] :: RowB bv [] :: []) w2 := ⟨_, HB.out, hI2⟩
  have HB2 := Lib.hid hb2
  obtain ⟨A1, c1, rfl, _, _, _⟩ := own_form hI2.rowAt
  obtain ⟨A2, c2, rfl, _, _, _⟩ := own_form hI2.swap.rowAt
  obtain ⟨A3, c3, rfl, _, _, _⟩ := own_form hI2.third.rowAt
  obtain ⟨g, rfl, q⟩ := rowsAt_get hI2.swap (k := 0) (by simp) rfl
  have HI2 := Lib.hid hI2
  clear hI2 hb2 HB HSC hbs hbs2
  go_upto_region 2 with (fail)
  refine wp_abs (In (fun _ => False) W2 (Box w2.heap.size 48 #[.slice A1 (gensL [(0, true)]).length c1, .slice (some ⟨g, 0, none⟩) [(⟨(0, 0), ⟨3, [0, 7, 0, 0, 0, 0, 0, 0]⟩⟩ : RowM)].length c2, .slice A3 ([] : List (Hd × Hd)).length c3] :: IntsA (.slice A1 (gensL [(0, true)]).length c1) (gensL [(0, true)]) :: RowsA (.slice (some ⟨g, 0, none⟩) [(⟨(0, 0), ⟨3, [0, 7, 0, 0, 0, 0, 0, 0]⟩⟩ : RowM)].length c2) [⟨(0, 0), ⟨3, [0, 7, 0, 0, 0, 0, 0, 0]⟩⟩] :: RowB (.slice A3 ([] : List (Hd × Hd)).length c3) [] :: [])) (HI2.out.newState _ _ _) ?_
  generalize w2.heap.size = sb
  clear HI2 q
  intro w3 hI3
  have k1 : w3.cell? ⟨sb, 1, none⟩ = some (.slice (some ⟨g, 0, none⟩) 1 c2) := hI3.blk.cell 1
  obtain ⟨g', e0, q⟩ := rowsAt_get hI3.third (k := 0) (by simp) rfl
  have e1 : g' = g := by injection e0 with e0; injection e0 with e0; exact e0.symm
  subst e1
  have q2 : row? w3 g' (0 * 11 + 3) 8 = some (ints [0, 7, 0, 0, 0, 0, 0, 0]) := row_partW q 3 8 (by omega)
  have q3 : row? w3 g' 3 8 = some (ints [0, 7, 0, 0, 0, 0, 0, 0]) := q2
  have heq : ∀ W, (binOp .eql 23 (.agg (ints [0, 7, 0, 0, 0, 0, 0, 0])) (.agg #[.int .i64 0, .int .i64 7, .int .i64 0, .int .i64 0, .int .i64 0, .int .i64 0, .int .i64 0, .int .i64 0])).run Tryz.prog W = .ok (.bool true) W := fun W => by kernel_rfl
  have heq2 : ∀ W, (binOp .eql 23 (.agg #[.int .i64 0, .int .i64 7, .int .i64 0, .int .i64 0, .int .i64 0, .int .i64 0, .int .i64 0, .int .i64 0]) (.agg #[.int .i64 0, .int .i64 7, .int .i64 0, .int .i64 0, .int .i64 0, .int .i64 0, .int .i64 0, .int .i64 0])).run Tryz.prog W = .ok (.bool true) W := fun W => by kernel_rfl
  have HE : Hid (Below w.heap.size w w3) := HB2.out.trans (hI3.below0.mono HB2.out.size)
  clear hI3 e0 q q2
  go_wp2_with fail
  go_ret
  exact ⟨rfl, HE.out⟩

end Go.Proofs.YtpgcghnlepnoiaaGreat

/-
  The walk of the law TopMoved: the values of an entity change by Put, Drop and systems alone.
-/
namespace Go.Proofs.YtpgcghnlepnoiaaGreat
open Go.RowKit

/-- what a spawn makes -/
theorem spawn_at {z : ZS} (hz : ZOk z) {o : OpM} (h1 : o.d = 1) (he : (doZ z o).2.2 = 0) : (doZ z o).1.f (doZ z o).2.1.1 = some ((doZ z o).2.1.2, o.b) := by
  rw [doZ_1 z o h1] at he ⊢
  simp only at he ⊢
  unfold spawnW at he ⊢
  by_cases hb : beastErr o.b = 0
  · rw [if_neg (fun h => h hb)] at he ⊢
    by_cases ht : (takeR z.ls).2.2 = 0
    · rw [if_pos ht] at he ⊢
      simp only
      unfold updB
      rw [if_pos rfl]
    · rw [if_neg ht] at he
      exact absurd he ht
  · rw [if_pos hb] at he
    exact absurd he hb
theorem eight {v : List Int} (h : v.length = 8) : ∃ y0 y1 y2 y3 y4 y5 y6 y7, v = [y0, y1, y2, y3, y4, y5, y6, y7] := by
  match v, h with
  | [_, _, _, _, _, _, _, _], _ => exact ⟨_, _, _, _, _, _, _, _, rfl⟩
theorem putB_bits {b : Beast} (hk : 0 ≤ b.k ∧ b.k ≤ 255) {k : Nat} (hk8 : k < 8) (n : Int) : (b.k.toNat.testBit k = true → putB b k n = ⟨b.k, b.v.set k n⟩) ∧ (b.k.toNat.testBit k = false → putB b k n = ⟨b.k + 2 ^ k, b.v.set k n⟩) := by
  refine ⟨fun h => ?_, fun h => ?_⟩
  · unfold putB
    rw [or_same _ _ (by omega) hk8 h]
    congr 1; omega
  · unfold putB
    rw [or_new _ _ (by omega) hk8 h]
    congr 1
    rw [Int.natCast_add]
    have : ((2 ^ k : Nat) : Int) = 2 ^ k := by simp
    omega
theorem dropB_bits {b : Beast} (hk : 0 ≤ b.k ∧ b.k ≤ 255) {k : Nat} (h : b.k.toNat.testBit k = true) : dropB b k = ⟨b.k - 2 ^ k, b.v.set k 0⟩ := by
  unfold dropB
  have h1 : 2 ^ k ≤ b.k.toNat := Nat.ge_two_pow_of_testBit h
  have : ((2 ^ k : Nat) : Int) = 2 ^ k := by simp
  congr 1; omega
theorem sub_bit1 : ∀ (m k : Nat), m < 256 → k < 8 → m.testBit k = true → wrap64 ((m : Int) - wrap64 (2 ^ k)) = ((m - 2 ^ k : Nat) : Int) := by
  have h : ∀ (m : Fin 256) (k : Fin 8), m.val.testBit k.val = true → wrap64 ((m.val : Int) - wrap64 (2 ^ k.val)) = ((m.val - 2 ^ k.val : Nat) : Int) := by decide +kernel
  exact fun m k hm hk => h ⟨m, hm⟩ ⟨k, hk⟩
theorem moveB_no {want : Beast} {h : Hd} {o : OpM} {e : Int} (hn : ¬ (e = 0 ∧ o.a = h)) : moveB want h o e = want := if_neg hn
theorem moveB_else {want : Beast} {h : Hd} {o : OpM} {e : Int} (h3 : o.d ≠ 3) (h4 : o.d ≠ 4) : moveB want h o e = want := by
  unfold moveB
  rw [if_neg h3, if_neg h4]
  split <;> rfl
theorem moveB_put {want : Beast} {h : Hd} {o : OpM} {e : Int} (hn : e = 0 ∧ o.a = h) (h3 : o.d = 3) : moveB want h o e = putB want o.k.toNat o.n := by
  unfold moveB
  rw [if_pos hn, if_pos h3]
theorem moveB_drop {want : Beast} {h : Hd} {o : OpM} {e : Int} (hn : e = 0 ∧ o.a = h) (h4 : o.d = 4) : moveB want h o e = dropB want o.k.toNat := by
  unfold moveB
  rw [if_pos hn, if_neg (by omega), if_pos h4]
set_option maxHeartbeats 4000000 in
set_option maxRecDepth 100000 in
theorem topMoved_any (A A' : Option Addr) (c c' : Nat) (os qs : List OpM) (x : Beast) (w : World) (HA : OpsIn w w.heap.size A os) (hlen : os.length ≤ 1099511627776) (hb8 : ∀ o ∈ os, o.b.v.length = 8)
    (HQ : OpsIn w w.heap.size A' qs) (hqlen : qs.length ≤ 1099511627776) (hq8 : ∀ o ∈ qs, o.b.v.length = 8) (hx8 : x.v.length = 8) :
    Calls Tryz.prog 3 #[.slice A os.length c, .slice A' qs.length c', .agg (ints x.list)] w fun e w' => e = .returned (.bool true) ∧ Below w.heap.size w w' := by
  have HO : Hid (OpsAt (fun _ => False) w w.heap.size A os) := OpsAt.of_arg HA
  have HQA : Hid (OpsAt (fun _ => False) w w.heap.size A' qs) := OpsAt.of_arg HQ
  have H8 := Lib.hid hb8
  have HQ8 := Lib.hid hq8
  obtain ⟨xk, xv⟩ := x
  obtain ⟨y0, y1, y2, y3, y4, y5, y6, y7, rfl⟩ := eight hx8
  clear hx8
  have HOK := Lib.hid (doneZ_ok hb8)
  have hqi : (qs.length : Int) ≤ 1099511627776 := by omega
  clear HA HQ hb8 hq8
  go_enter Tryz.func3, Tryz.ntmps3
  go_upto_region 1 with (fail)
  refine wp_abs (In (fun _ => False) w [Box w.heap.size 25 (ints [xk, y0, y1, y2, y3, y4, y5, y6, y7])]) ((In.nil w (fun _ => False)).alloc 25 (ints [xk, y0, y1, y2, y3, y4, y5, y6, y7])) ?_
  generalize hob : w.heap.size = ob
  intro w0 hI0
  have HI0 := Lib.hid hI0
  clear hI0
  go_wp2_with fail
  refine (works_any w0).mono ?_
  rintro e w1 ⟨rfl, hb1⟩
  have HI1 := Lib.hid (HI0.out.below hb1)
  clear hb1 HI0
  go_wp2_with fail
  refine (zdoneU_in (c := c) HO.out hlen H8.out HI1.out).mono ?_
  rintro e w2 ⟨p, rfl, hI2⟩
  generalize doneZ os = z0 at *
  have q2 : row? w2 ob 0 9 = some #[.int .i64 xk, .int .i64 y0, .int .i64 y1, .int .i64 y2, .int .i64 y3, .int .i64 y4, .int .i64 y5, .int .i64 y6, .int .i64 y7] := hI2.swap.blk.row_all (xs := [xk, y0, y1, y2, y3, y4, y5, y6, y7]) rfl
  have HDO : Hid (Calls Tryz.prog 6 #[ptr p, .agg #[.int .i64 1, .int .i64 xk, .int .i64 y0, .int .i64 y1, .int .i64 y2, .int .i64 y3, .int .i64 y4, .int .i64 y5, .int .i64 y6, .int .i64 y7, .int .i64 0, .int .i64 0, .int .i64 0, .int .i64 0, .int .i64 0, .int .i64 0]] w2 fun e w' => e = .returned (.tuple #[.agg (ints [(doZ z0 ⟨1, ⟨xk, [y0, y1, y2, y3, y4, y5, y6, y7]⟩, (0, 0), (0, 0), 0, 0⟩).2.1.1, (doZ z0 ⟨1, ⟨xk, [y0, y1, y2, y3, y4, y5, y6, y7]⟩, (0, 0), (0, 0), 0, 0⟩).2.1.2]), .int .i64 (doZ z0 ⟨1, ⟨xk, [y0, y1, y2, y3, y4, y5, y6, y7]⟩, (0, 0), (0, 0), 0, 0⟩).2.2]) ∧ In (fun _ => False) w (ZooA p (doZ z0 ⟨1, ⟨xk, [y0, y1, y2, y3, y4, y5, y6, y7]⟩, (0, 0), (0, 0), 0, 0⟩).1 :: [Box ob 25 (ints [xk, y0, y1, y2, y3, y4, y5, y6, y7])]) w') := zdo_in hI2 HOK.out ⟨1, ⟨xk, [y0, y1, y2, y3, y4, y5, y6, y7]⟩, (0, 0), (0, 0), 0, 0⟩ rfl
  have HOK1 := Lib.hid (HOK.out.do_ (o := ⟨1, ⟨xk, [y0, y1, y2, y3, y4, y5, y6, y7]⟩, (0, 0), (0, 0), 0, 0⟩) rfl)
  have HSP : Hid ((doZ z0 ⟨1, ⟨xk, [y0, y1, y2, y3, y4, y5, y6, y7]⟩, (0, 0), (0, 0), 0, 0⟩).2.2 = 0 → (doZ z0 ⟨1, ⟨xk, [y0, y1, y2, y3, y4, y5, y6, y7]⟩, (0, 0), (0, 0), 0, 0⟩).1.f (doZ z0 ⟨1, ⟨xk, [y0, y1, y2, y3, y4, y5, y6, y7]⟩, (0, 0), (0, 0), 0, 0⟩).2.1.1 = some ((doZ z0 ⟨1, ⟨xk, [y0, y1, y2, y3, y4, y5, y6, y7]⟩, (0, 0), (0, 0), 0, 0⟩).2.1.2, ⟨xk, [y0, y1, y2, y3, y4, y5, y6, y7]⟩)) := fun he => spawn_at HOK.out (o := ⟨1, ⟨xk, [y0, y1, y2, y3, y4, y5, y6, y7]⟩, (0, 0), (0, 0), 0, 0⟩) rfl he
  clear hI2 HI1
  generalize doZ z0 ⟨1, ⟨xk, [y0, y1, y2, y3, y4, y5, y6, y7]⟩, (0, 0), (0, 0), 0, 0⟩ = r at *
  obtain ⟨z1, ⟨h1, h2⟩, er⟩ := r
  simp only at HOK1 HSP HDO
  go_wp2_with fail
  refine HDO.out.mono ?_
  rintro e w3 ⟨rfl, hI3⟩
  clear HDO q2
  go_upto_region 7 with (fail)
  refine wp_abs (In (fun _ => False) w [Box w3.heap.size 30 (ints [h1, h2]), ZooA p z1, Box ob 25 (ints [xk, y0, y1, y2, y3, y4, y5, y6, y7])]) (hI3.struct 30 [0, 0] [h1, h2] rfl) ?_
  generalize w3.heap.size = hb
  clear hI3
  intro w4 hI4
  have HI4 := Lib.hid hI4
  clear hI4
  by_cases he : er = 0
  rotate_left
  · have hne : (er != 0) = true := by simp [he]
    have HB := Lib.hid HI4.out.below0
    clear he HSP HI4
    go_wp2_with fail
    go_ret
    exact ⟨rfl, HB.out⟩
  subst he
  have HF1 := Lib.hid (HSP.out rfl)
  have q4 : row? w4 ob 0 9 = some (ints [xk, y0, y1, y2, y3, y4, y5, y6, y7]) := HI4.out.third.blk.row_all rfl
  clear HSP
  go_upto_region 10 with (fail)
  refine wp_abs (In (fun _ => False) w [Box w4.heap.size 25 (ints [xk, y0, y1, y2, y3, y4, y5, y6, y7]), Box hb 30 (ints [h1, h2]), ZooA p z1, Box ob 25 (ints [xk, y0, y1, y2, y3, y4, y5, y6, y7])]) (HI4.out.struct 25 [0, 0, 0, 0, 0, 0, 0, 0, 0] [xk, y0, y1, y2, y3, y4, y5, y6, y7] rfl) ?_
  generalize w4.heap.size = wb
  clear q4 HI4
  intro w5 hI5
  have HI5 : Hid (In (fun _ => False) w [ZooA p z1, Box wb 25 (ints (Beast.list ⟨xk, [y0, y1, y2, y3, y4, y5, y6, y7]⟩)), Box hb 30 (ints [h1, h2]), Box ob 25 (ints [xk, y0, y1, y2, y3, y4, y5, y6, y7])] w5) := hI5.third
  clear hI5
  go_wp2_with fail
  go_loopw [36] (fun i w' => ∃ k : Nat, k ≤ qs.length ∧ i = .int .i64 k ∧ ∃ z want, ZOk z ∧ z.f h1 = some (h2, want) ∧ In (fun _ => False) w [ZooA p z, Box wb 25 (ints want.list), Box hb 30 (ints [h1, h2]), Box ob 25 (ints [xk, y0, y1, y2, y3, y4, y5, y6, y7])] w') (fun i _ => qs.length - (intOf i).toNat)
  case atStart => exact ⟨0, Nat.zero_le _, rfl, z1, ⟨xk, [y0, y1, y2, y3, y4, y5, y6, y7]⟩, HOK1.out, HF1.out, HI5.out⟩
  case round =>
    clear HI5
    obtain ⟨k, hk, rfl, z, want, hzk, hzf, hI⟩ := hrel
    by_cases hlt : k < qs.length
    · have hki : (k : Int) < qs.length := by omega
      obtain ⟨g, o, rfl, hgb, q1⟩ := (HQA.out hI.bare).at_ hlt
      have hq8 := HQ8.out qs[k] (List.getElem_mem hlt)
      have HZK := Lib.hid hzk
      have HZF := Lib.hid hzf
      have HI := Lib.hid hI
      obtain ⟨hwe, hw8⟩ := hzk.w.bo _ _ _ hzf
      have HWE := Lib.hid hwe
      have HW8 := Lib.hid hw8
      clear hI hzk hzf hwe hw8
      generalize qs[k] = q at *
      have h16 : q.list.length = 16 := OpM.len hq8
      have HMV : Hid (q.d ≠ 2 → q.d ≠ 5 → (doZ z q).1.f h1 = some (h2, moveB want (h1, h2) q (doZ z q).2.2)) := fun a b => doZ_move (h := (h1, h2)) HZK.out HZF.out a b
      have HKD : Hid ((doZ z q).2.2 = 0 → q.d = 3 ∨ q.d = 4 → q.a = (h1, h2) → (0 ≤ q.k ∧ q.k < 8) ∧ (q.d = 4 → want.k.toNat.testBit q.k.toNat = true)) := fun a b c => doZ_kind (h := (h1, h2)) HZK.out HZF.out a b c
      have HOK2 := Lib.hid (HZK.out.do_ hq8)
      obtain ⟨d, ⟨bk, bv⟩, ⟨a1, a2⟩, ⟨t1, t2⟩, qk, qn⟩ := q
      simp only at HMV HKD hq8
      go_upto_region 13 with (fail)
      refine wp_abs (In (fun _ => False) w [ZooA p z, Box wr.heap.size 35 (ints (OpM.list ⟨d, ⟨bk, bv⟩, (a1, a2), (t1, t2), qk, qn⟩)), Box wb 25 (ints want.list), Box hb 30 (ints [h1, h2]), Box ob 25 (ints [xk, y0, y1, y2, y3, y4, y5, y6, y7])]) (HI.out.struct 35 [0, 0, 0, 0, 0, 0, 0, 0, 0, 0, 0, 0, 0, 0, 0, 0] _ h16).swap ?_
      generalize wr.heap.size = qb
      intro w6 hI6
      have HQC : Hid (∀ W zz (L : List Assn), In (fun _ => False) w (ZooA p zz :: Box qb 35 (ints (OpM.list ⟨d, ⟨bk, bv⟩, (a1, a2), (t1, t2), qk, qn⟩)) :: L) W → W.cell? ⟨qb, 0, none⟩ = some (.int .i64 d) ∧ row? W qb 10 2 = some (ints [a1, a2]) ∧ W.cell? ⟨qb, 14, none⟩ = some (.int .i64 qk) ∧ W.cell? ⟨qb, 15, none⟩ = some (.int .i64 qn) ∧ row? W qb 0 16 = some (ints (OpM.list ⟨d, ⟨bk, bv⟩, (a1, a2), (t1, t2), qk, qn⟩))) := fun W zz L hW => by
        match bv, hq8 with
        | [_, _, _, _, _, _, _, _], _ => exact ⟨hW.swap.blk.cell 0, hW.swap.blk.row_ints 10 2 (by simp [OpM.list, Beast.list]), hW.swap.blk.cell 14, hW.swap.blk.cell 15, hW.swap.blk.row_all rfl⟩
      obtain ⟨s1, s2, s3, s4, s5⟩ := HQC.out _ _ _ hI6
      have s6 : row? w6 hb 0 2 = some (ints [h1, h2]) := hI6.fourth.blk.row_all rfl
      have HI6 := Lib.hid hI6
      clear hI6 q1 HI
      obtain ⟨mine, hmine⟩ : ∃ mine : Bool, decide (((a1, a2) : Hd) = (h1, h2)) = mine := ⟨_, rfl⟩
      have heqA : ∀ W, (binOp .eql 30 (.agg (ints [a1, a2])) (.agg (ints [h1, h2]))).run Tryz.prog W = .ok (.bool mine) W := fun W => by
        rw [eql_handle [a1, a2] [h1, h2] rfl rfl W, ← hmine]
        have := hL_dec (a1, a2) (h1, h2)
        unfold hL at this
        rw [this]
      have heqB : ∀ W, (binOp .eql 30 (.agg #[.int .i64 a1, .int .i64 a2]) (.agg #[.int .i64 h1, .int .i64 h2])).run Tryz.prog W = .ok (.bool mine) W := heqA
      have HMINE := Lib.hid hmine
      clear hmine
      by_cases h2' : d = 2
      · have hd2 : (d == 2) = true := by simp [h2']
        clear h2'
        have HI7 := Lib.hid (HI6.out.swap.drop)
        go_wp2_with fail
        go_roundw
        case rel => exact ⟨k + 1, by omega, by go_num, z, want, HZK.out, HZF.out, HI7.out⟩
        case measure => simp [intOf]; omega
      have hd2 : (d == 2) = false := by simp [h2']
      by_cases h5' : d = 5
      · have hd5 : (d == 5) = true := by simp [h5']
        clear h5' h2'
        have HI7 := Lib.hid (HI6.out.swap.drop)
        go_wp2_with fail
        go_roundw
        case rel => exact ⟨k + 1, by omega, by go_num, z, want, HZK.out, HZF.out, HI7.out⟩
        case measure => simp [intOf]; omega
      have hd5 : (d == 5) = false := by simp [h5']
      have HMV2 := Lib.hid (HMV.out h2' h5')
      clear HMV h2' h5'
      go_wp2_with fail
      refine (zdo_in HI6.out HZK.out ⟨d, ⟨bk, bv⟩, (a1, a2), (t1, t2), qk, qn⟩ hq8).mono ?_
      rintro e w7 ⟨rfl, hI7⟩
      clear s1 s2 s3 s4 s5 s6 heqA heqB hd2 hd5 HI6
      generalize doZ z ⟨d, ⟨bk, bv⟩, (a1, a2), (t1, t2), qk, qn⟩ = r at *
      obtain ⟨zn, ⟨r1, r2⟩, er⟩ := r
      simp only at HMV2 HKD HOK2 hI7
      go_upto_region 16 with (fail)
      refine wp_abs (In (fun _ => False) w [Box w7.heap.size 30 (ints [r1, r2]), ZooA p zn, Box qb 35 (ints (OpM.list ⟨d, ⟨bk, bv⟩, (a1, a2), (t1, t2), qk, qn⟩)), Box wb 25 (ints want.list), Box hb 30 (ints [h1, h2]), Box ob 25 (ints [xk, y0, y1, y2, y3, y4, y5, y6, y7])]) (hI7.struct 30 [0, 0] [r1, r2] rfl) ?_
      generalize w7.heap.size = nb
      clear hI7
      intro w8 hI8
      obtain ⟨s1, _, s3, s4, _⟩ := HQC.out _ _ _ hI8.drop
      have HI8 := Lib.hid hI8.drop
      clear hI8
      have HI8 : Hid (In (fun _ => False) w [Box wb 25 (ints want.list), ZooA p zn, Box qb 35 (ints (OpM.list ⟨d, ⟨bk, bv⟩, (a1, a2), (t1, t2), qk, qn⟩)), Box hb 30 (ints [h1, h2]), Box ob 25 (ints [xk, y0, y1, y2, y3, y4, y5, y6, y7])] w8) := HI8.out.third
      have HBK := Lib.hid ((beast_iff want).1 HWE.out).1
      obtain ⟨next, hnext⟩ : ∃ next, moveB want (h1, h2) ⟨d, ⟨bk, bv⟩, (a1, a2), (t1, t2), qk, qn⟩ er = next := ⟨_, rfl⟩
      rw [hnext] at HMV2
      have HNX := Lib.hid hnext
      clear hnext
      by_cases hset : (er = 0 ∧ mine = true) ∧ (d = 3 ∨ d = 4)
      rotate_left
      focus
        have HN : Hid (want = next) := by
          have h1 := HNX.out
          by_cases hm : er = 0 ∧ mine = true
          · have hd : d ≠ 3 ∧ d ≠ 4 := ⟨fun e => hset ⟨hm, Or.inl e⟩, fun e => hset ⟨hm, Or.inr e⟩⟩
            rw [moveB_else hd.1 hd.2] at h1
            exact h1
          · rw [moveB_no] at h1
            · exact h1
            · rintro ⟨e1, e2⟩
              exact hm ⟨e1, by rw [← HMINE.out]; exact decide_eq_true e2⟩
        rw [HN.out] at HI8
        by_cases he : er = 0
        rotate_left
        focus
          have hee : (er == 0) = false := by simp [he]
          clear hset he s1 s3 s4
          go_upto_region 25 with (fail)
          have HI10 := Lib.hid HI8.out.third.drop
          clear HI8
          generalize w8 = w10 at *
        rotate_left
        focus
          have hee : (er == 0) = true := by simp [he]
          obtain ⟨mm, hmm⟩ : ∃ mm, mine = mm := ⟨_, rfl⟩
          cases mm
          focus
            subst hmm
            clear hset he s1 s3 s4
            go_upto_region 25 with (fail)
            have HI10 := Lib.hid HI8.out.third.drop
            clear HI8
            generalize w8 = w10 at *
          rotate_left
          focus
            have h3' : (d == 3) = false := by
              have : ¬ d = 3 := fun e => hset ⟨⟨he, hmm⟩, Or.inl e⟩
              simp [this]
            have h4' : (d == 4) = false := by
              have : ¬ d = 4 := fun e => hset ⟨⟨he, hmm⟩, Or.inr e⟩
              simp [this]
            subst hmm
            clear hset he s3 s4
            go_upto_region 25 with (fail)
            have HI10 := Lib.hid HI8.out.third.drop
            clear HI8 s1
            generalize w8 = w10 at *
      rotate_left 3
      focus
        obtain ⟨⟨rfl, rfl⟩, h34⟩ := hset
        have hah : ((a1, a2) : Hd) = (h1, h2) := of_decide_eq_true HMINE.out
        obtain ⟨hk8', hbit⟩ := HKD.out rfl h34 hah
        obtain ⟨kk, rfl⟩ : ∃ kk : Nat, qk = kk := ⟨qk.toNat, by omega⟩
        have hk8 : kk < 8 := by omega
        rw [Int.toNat_natCast] at hbit
        have hki8 : (kk : Int) < 8 := by omega
        have hbk := HBK.out
        have HM8 : Hid (m8 want.k = want.k.toNat) := m8_same hbk
        have HKO : Hid (want.k = ((want.k.toNat : Nat) : Int)) := by unfold Hid; omega
        have hkl : want.k.toNat < 256 := by omega
        clear HKD hk8'
        by_cases h3 : d = 3
        rotate_left
        focus
          have h4 : d = 4 := by omega
          have hd3 : (d == 3) = false := by simp [h3]
          have hd4 : (d == 4) = true := by simp [h4]
          have ht := hbit h4
          have HN : Hid (dropB want kk = next) := by
            have := HNX.out
            rw [moveB_drop ⟨rfl, hah⟩ h4] at this
            exact this
          have d3 : w8.cell? ⟨wb, 0, none⟩ = some (.int .i64 want.k) := HI8.out.blk.cell 0
          have HPB : Hid (wrap64 (want.k - wrap64 (2 ^ kk)) = (dropB want kk).k) := by
            unfold Hid dropB
            have := sub_bit1 want.k.toNat kk hkl hk8 ht
            rw [← HKO.out] at this
            exact this
          have d4 : w8.frozen? ⟨wb, 0, none⟩ = false := HI8.out.blk.frozen _
          have HSET : Hid (∀ W, W = (w8.setCell ⟨wb, 0, none⟩ (.int .i64 (wrap64 (want.k - wrap64 (2 ^ kk))))).drew → In (fun _ => False) w [Box wb 25 (ints ((dropB want kk).k :: want.v)), ZooA p zn, Box qb 35 (ints (OpM.list ⟨d, ⟨bk, bv⟩, (a1, a2), (t1, t2), (kk : Int), qn⟩)), Box hb 30 (ints [h1, h2]), Box ob 25 (ints [xk, y0, y1, y2, y3, y4, y5, y6, y7])] W) := fun W e => by
            rw [e, HPB.out]
            have := (In.set HI8.out 0 (.int .i64 (dropB want kk).k)).drew
            rw [ints_set] at this
            exact this
          clear h3 h4 h34 hbit ht hkl hbk HPB
          go_upto_region 23 with (fail)
          go_region
          all_goals
            go_upto_region 24 with (fail)
            refine wp_abs (In (fun _ => False) w [Box wb 25 (ints ((dropB want kk).k :: want.v)), ZooA p zn, Box qb 35 (ints (OpM.list ⟨d, ⟨bk, bv⟩, (a1, a2), (t1, t2), (kk : Int), qn⟩)), Box hb 30 (ints [h1, h2]), Box ob 25 (ints [xk, y0, y1, y2, y3, y4, y5, y6, y7])]) (HSET.out _ rfl) ?_
            clear d3 d4 HI8 HSET s1 s3 s4
            intro w9 hI9
            have HI9 := Lib.hid hI9
            clear hI9
            obtain ⟨s1, _, s3, s4, _⟩ := HQC.out _ _ _ HI9.out.drop
            have d5 : w9.frozen? ⟨wb, 1 + kk, none⟩ = false := HI9.out.blk.frozen _
            have d6 : w9.cell? ⟨wb, 1 + kk, none⟩ = some (.int .i64 (want.v.getD kk 0)) := by
              rw [HI9.out.blk.cell, ints_get, show 1 + kk = kk + 1 by omega, List.getElem?_cons_succ, List.getElem?_eq_getElem (by rw [HW8.out]; exact hk8)]
              simp [List.getD, List.getElem?_eq_getElem (show kk < want.v.length by rw [HW8.out]; exact hk8)]
            have hset2 := In.set HI9.out (1 + kk) (.int .i64 0)
            rw [ints_set, show 1 + kk = kk + 1 by omega, List.set_cons_succ] at hset2
            have HSET : Hid (∀ W, W = w9.setCell ⟨wb, 1 + kk, none⟩ (.int .i64 0) → In (fun _ => False) w [Box wb 25 (ints next.list), ZooA p zn, Box hb 30 (ints [h1, h2]), Box ob 25 (ints [xk, y0, y1, y2, y3, y4, y5, y6, y7])] W) := fun W e => by
              rw [e, show 1 + kk = kk + 1 by omega, ← HN.out]; exact hset2.third.drop
            generalize want.v.getD kk 0 = yy at *
            clear hset2 HI9
            go_upto_region 25 with (fail)
            refine wp_abs (In (fun _ => False) w [Box wb 25 (ints next.list), ZooA p zn, Box hb 30 (ints [h1, h2]), Box ob 25 (ints [xk, y0, y1, y2, y3, y4, y5, y6, y7])]) (HSET.out _ rfl) ?_
            clear d5 d6 HSET s1 s3 s4
            intro w10 hI10
            have HI10 := Lib.hid hI10
            clear hI10
        rotate_left 1
        focus
          have hd3 : (d == 3) = true := by simp [h3]
          have HN : Hid (putB want kk qn = next) := by
            have := HNX.out
            rw [moveB_put ⟨rfl, hah⟩ h3] at this
            exact this
          have d3 : w8.cell? ⟨wb, 0, none⟩ = some (.int .i64 want.k) := HI8.out.blk.cell 0
          clear h3 h34 hbit
          go_wp2_with fail
          refine (hasKind_any want.k kk w8 hk8).mono ?_
          rintro e w' ⟨rfl, rfl⟩
          rw [HM8.out]
          by_cases ht : want.k.toNat.testBit kk = true
          focus
            have HPB : Hid (putB want kk qn = ⟨want.k, want.v.set kk qn⟩) := (putB_bits hbk hk8 qn).1 ht
            rw [ht]
            have HI9 : Hid (In (fun _ => False) w [Box wb 25 (ints ((putB want kk qn).k :: want.v)), ZooA p zn, Box qb 35 (ints (OpM.list ⟨d, ⟨bk, bv⟩, (a1, a2), (t1, t2), (kk : Int), qn⟩)), Box hb 30 (ints [h1, h2]), Box ob 25 (ints [xk, y0, y1, y2, y3, y4, y5, y6, y7])] w8) := by
              rw [HPB.out]; exact HI8.out
            clear d3 HPB ht hkl hbk HI8 s1 s3 s4
            go_upto_region 21 with (fail)
            generalize w8 = w9 at *
          rotate_left
          focus
            have ht' : want.k.toNat.testBit kk = false := by simpa using ht
            have HPB : Hid (wrap64 (want.k + wrap64 (2 ^ kk)) = (putB want kk qn).k) := by
              unfold Hid putB
              have := add_bit want.k.toNat kk hkl hk8 ht'
              rw [← HKO.out] at this
              exact this
            rw [ht']
            have d4 : w8.frozen? ⟨wb, 0, none⟩ = false := HI8.out.blk.frozen _
            have HSET : Hid (∀ W, W = (w8.setCell ⟨wb, 0, none⟩ (.int .i64 (wrap64 (want.k + wrap64 (2 ^ kk))))).drew → In (fun _ => False) w [Box wb 25 (ints ((putB want kk qn).k :: want.v)), ZooA p zn, Box qb 35 (ints (OpM.list ⟨d, ⟨bk, bv⟩, (a1, a2), (t1, t2), (kk : Int), qn⟩)), Box hb 30 (ints [h1, h2]), Box ob 25 (ints [xk, y0, y1, y2, y3, y4, y5, y6, y7])] W) := fun W e => by
              rw [e, HPB.out]
              have := (In.set HI8.out 0 (.int .i64 (putB want kk qn).k)).drew
              rw [ints_set] at this
              exact this
            clear ht ht' hkl hbk HPB
            go_upto_region 20 with (fail)
            go_region
            all_goals
              go_upto_region 21 with (fail)
              refine wp_abs (In (fun _ => False) w [Box wb 25 (ints ((putB want kk qn).k :: want.v)), ZooA p zn, Box qb 35 (ints (OpM.list ⟨d, ⟨bk, bv⟩, (a1, a2), (t1, t2), (kk : Int), qn⟩)), Box hb 30 (ints [h1, h2]), Box ob 25 (ints [xk, y0, y1, y2, y3, y4, y5, y6, y7])]) (HSET.out _ rfl) ?_
              clear d3 d4 HI8 HSET s1 s3 s4
              intro w9 hI9
              have HI9 := Lib.hid hI9
              clear hI9
          all_goals
            obtain ⟨s1, _, s3, s4, _⟩ := HQC.out _ _ _ HI9.out.drop
            have d5 : w9.frozen? ⟨wb, 1 + kk, none⟩ = false := HI9.out.blk.frozen _
            have d6 : w9.cell? ⟨wb, 1 + kk, none⟩ = some (.int .i64 (want.v.getD kk 0)) := by
              rw [HI9.out.blk.cell, ints_get, show 1 + kk = kk + 1 by omega, List.getElem?_cons_succ, List.getElem?_eq_getElem (by rw [HW8.out]; exact hk8)]
              simp [List.getD, List.getElem?_eq_getElem (show kk < want.v.length by rw [HW8.out]; exact hk8)]
            have hset2 := In.set HI9.out (1 + kk) (.int .i64 qn)
            rw [ints_set, show 1 + kk = kk + 1 by omega, List.set_cons_succ] at hset2
            have HSET : Hid (∀ W, W = w9.setCell ⟨wb, 1 + kk, none⟩ (.int .i64 qn) → In (fun _ => False) w [Box wb 25 (ints next.list), ZooA p zn, Box hb 30 (ints [h1, h2]), Box ob 25 (ints [xk, y0, y1, y2, y3, y4, y5, y6, y7])] W) := fun W e => by
              rw [e, show 1 + kk = kk + 1 by omega, ← HN.out]; exact hset2.third.drop
            generalize want.v.getD kk 0 = yy at *
            clear hset2 HI9
            go_upto_region 25 with (fail)
            refine wp_abs (In (fun _ => False) w [Box wb 25 (ints next.list), ZooA p zn, Box hb 30 (ints [h1, h2]), Box ob 25 (ints [xk, y0, y1, y2, y3, y4, y5, y6, y7])]) (HSET.out _ rfl) ?_
            clear d5 d6 HSET s1 s3 s4
            intro w10 hI10
            have HI10 := Lib.hid hI10
            clear hI10
      all_goals
        have HGET : Hid (getW zn.ls zn.f (h1, h2) = (next, 0)) := by
          unfold Hid getW
          have hl : liveB zn.ls h1 h2 = true := (HOK2.out.w.lv _ _).2 ⟨next, HMV2.out⟩
          rw [if_pos hl]
          unfold beastOf
          rw [HMV2.out]; rfl
        have HG1 : Hid ((getW zn.ls zn.f (h1, h2)).1 = next) := by unfold Hid; rw [HGET.out]
        have HG2 : Hid ((getW zn.ls zn.f (h1, h2)).2 = 0) := by unfold Hid; rw [HGET.out]
        have hn8 := (HOK2.out.w.bo _ _ _ HMV2.out).2
        have hn9 : next.list.length = 9 := by simp [Beast.list, hn8]
        obtain ⟨wp, fp, m, hm, hf, ha, hI11⟩ := HI10.out.swap.openZoo
        have HM := Lib.hid hm
        have HI11 : Hid (In (fun _ => False) w [WorldA wp zn.ls zn.f, zBox p wp fp, FamA fp m, Box wb 25 (ints next.list), Box hb 30 (ints [h1, h2]), Box ob 25 (ints [xk, y0, y1, y2, y3, y4, y5, y6, y7])] w10) := hI11.swap
        have HFW : Hid (∀ {W : World} {L : List Assn}, In (fun _ => False) w (WorldA wp zn.ls zn.f :: zBox p wp fp :: FamA fp m :: Box wb 25 (ints next.list) :: Box hb 30 (ints [h1, h2]) :: L) W → W.cell? ⟨p, 0, none⟩ = some (ptr wp) ∧ row? W hb 0 2 = some (ints [h1, h2])) := fun {W L} hW =>
          ⟨hW.swap.blk.cell 0, (hW.nth 4 (by simp)).blk.row_all rfl⟩
        obtain ⟨v1, v2⟩ := HFW.out HI11.out
        have HIA : Hid (In (fun _ => False) w (WorldA wp zn.ls zn.f :: zBox p wp fp :: FamA fp m :: Box wb 25 (ints next.list) :: Box hb 30 (ints [h1, h2]) :: [Box ob 25 (ints [xk, y0, y1, y2, y3, y4, y5, y6, y7]), Box w10.heap.size 25 (ints [0, 0, 0, 0, 0, 0, 0, 0, 0])]) (w10.alloc (.cells (ints [0, 0, 0, 0, 0, 0, 0, 0, 0]) 25)).drew) := by
          have h1 := (HI11.out.alloc 25 (ints [0, 0, 0, 0, 0, 0, 0, 0, 0])).drew
          exact h1.reorder 7 [1, 2, 3, 4, 5, 6, 0] rfl (by simp)
        have HBN : Hid (p < w10.heap.size ∧ hb < w10.heap.size) := ⟨HI11.out.swap.blk.lt, (HI11.out.nth 4 (by simp)).blk.lt⟩
        clear hI11 hm hf ha HI10
        go_region_held3 (fun W => W.cell? ⟨p, 0, none⟩ = some (ptr wp) ∧ row? W hb 0 2 = some (ints [h1, h2]))
          (refine ⟨?_, ?_⟩ <;> (first | assumption | (refine cell_new_alloc _ ?_; assumption) | (refine row_alloc _ ?_; assumption) | (refine cell_put_new _ [0, 0, 0, 0, 0, 0, 0, 0, 0] _ ?_; assumption) | (refine row_put_new _ [0, 0, 0, 0, 0, 0, 0, 0, 0] _ ?_; assumption) | (refine cell_far (by have := HBN.out; omega) ?_; assumption) | (refine row_far (by have := HBN.out; omega) ?_; assumption)))
          (first
            | (go_at_call 8; refine (get_in HI11.out.drew HOK2.out.w h1 h2).mono ?_; rintro e w12 ⟨rfl, hI12⟩; rw [HG1.out, HG2.out]; obtain ⟨g1, g2⟩ := HFW.out hI12; have HI12 := Lib.hid hI12; clear hI12)
            | (go_at_call 8; refine (get_in HIA.out HOK2.out.w h1 h2).mono ?_; rintro e w12 ⟨rfl, hI12⟩; rw [HG1.out, HG2.out]; obtain ⟨g1, g2⟩ := HFW.out hI12; have HI12 := Lib.hid hI12; have f3 := (hI12.nth 6 (by simp)).blk.fits 0 9 (by rw [ints_size]; simp); clear hI12))
        all_goals
          have HSH : Hid (∀ {W : World} {L : List Assn}, In (fun _ => False) w (WorldA wp zn.ls zn.f :: zBox p wp fp :: FamA fp m :: L) W → In (fun _ => False) w (ZooA p zn :: L) W) := fun {W L} h => In.shutZoo (z := zn) HM.out h.swap
          have hneq : ∀ W, (binOp .neq 25 (.agg (ints next.list)) (.agg (ints next.list))).run Tryz.prog W = .ok (.bool false) W := fun W => by
            rw [neq_beast _ _ hn9 hn9 W]; simp
          (first
            | (obtain ⟨W9, hW9⟩ : ∃ W9, putRow (w12.alloc (.cells #[Value.int .i64 0, Value.int .i64 0, Value.int .i64 0, Value.int .i64 0, Value.int .i64 0, Value.int .i64 0, Value.int .i64 0, Value.int .i64 0, Value.int .i64 0] 25)) w12.heap.size 0 next.list = W9 := ⟨_, rfl⟩; rw [hW9]; have hI13 : In (fun _ => False) w (Box w12.heap.size 25 (ints next.list) :: ZooA p zn :: [Box wb 25 (ints next.list), Box hb 30 (ints [h1, h2]), Box ob 25 (ints [xk, y0, y1, y2, y3, y4, y5, y6, y7])]) W9 := (by rw [← hW9]; exact (HSH.out HI12.out).struct 25 [0, 0, 0, 0, 0, 0, 0, 0, 0] next.list hn9))
            | (obtain ⟨W9, hW9⟩ : ∃ W9, putRow w12 w10.heap.size 0 next.list = W9 := ⟨_, rfl⟩; rw [hW9]; have hI13 : In (fun _ => False) w (Box w10.heap.size 25 (ints next.list) :: ZooA p zn :: [Box wb 25 (ints next.list), Box hb 30 (ints [h1, h2]), Box ob 25 (ints [xk, y0, y1, y2, y3, y4, y5, y6, y7])]) W9 := (by rw [← hW9]; exact ((HSH.out HI12.out).reorder 5 [4, 0, 1, 2, 3] rfl (by simp)).put_all next.list hn9)))
          clear HI12 hW9 HIA HI11
          have r1 : row? W9 wb 0 9 = some (ints next.list) := hI13.third.blk.row_all hn9
          have HI14 := Lib.hid (hI13.drop)
          (first
            | (have r2 : row? W9 w12.heap.size 0 9 = some (ints next.list) := hI13.blk.row_all hn9; clear hI13; generalize w12.heap.size = gb at *)
            | (have r2 : row? W9 w10.heap.size 0 9 = some (ints next.list) := hI13.blk.row_all hn9; clear hI13; generalize w10.heap.size = gb at *))
          go_wp2_with fail
          go_roundw
          case rel => exact ⟨k + 1, by omega, by go_num, zn, next, HOK2.out, HMV2.out, HI14.out⟩
          case measure => simp [intOf]; omega
    · have : k = qs.length := by omega
      subst this
      have HB := Lib.hid hI.below0
      clear hI hzk hzf
      go_wp2_with fail
      go_ret
      exact ⟨rfl, HB.out⟩

end Go.Proofs.YtpgcghnlepnoiaaGreat
