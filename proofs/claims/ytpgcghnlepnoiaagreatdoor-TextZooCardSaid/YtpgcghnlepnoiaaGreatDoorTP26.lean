/-
  Several texts in one (merged by a program of mine): FamUnder.
-/
import Derived.Test.YtpgcghnlepnoiaaGreatDoorTP25
import Derived.Deep.AppendLies
set_option linter.unusedVariables false
set_option linter.unusedSimpArgs false
set_option linter.unusedSectionVars false
/-
  The contract of family.Under.
-/
namespace Go.Proofs.YtpgcghnlepnoiaaGreatDoor
open Go.RowKit

noncomputable def underTo (m : Fam) (a : Hd) (k : Nat) : List Hd := ((kids m a).take k).flatMap fun c => c :: under m c
theorem underTo_succ (m : Fam) (a : Hd) (k : Nat) (h : k < (kids m a).length) : underTo m a (k + 1) = (underTo m a k ++ [(kids m a)[k]]) ++ under m (kids m a)[k] := by
  unfold underTo
  rw [List.take_succ_eq_append_getElem h, List.flatMap_append]
  simp
theorem underTo_all (m : Fam) (hm : FamOk m) (a : Hd) : underTo m a (kids m a).length = under m a := by
  unfold underTo
  rw [List.take_length, under_eq hm.nodup hm.acyc]
theorem underTo_le (m : Fam) (hm : FamOk m) (a : Hd) (k : Nat) : (underTo m a k).length ≤ m.length := by
  refine Nat.le_trans ?_ (under_len hm.nodup hm.acyc a)
  rw [← underTo_all m hm]
  unfold underTo
  rw [List.take_length]
  conv => rhs; rw [← List.take_append_drop k (kids m a), List.flatMap_append]
  rw [List.length_append]
  omega

/-- a slice of handles appended to another, within a region -/
theorem step_appendH {G : Nat → Prop} {w0 w : World} {l : List Assn} {v u : Value} {cs ds : List Hd} {ops : Array Oper} {o : Oper} {a : Act} {K : Act → World → Prop} {Q : Exit → Act → World → Prop} {X : Prop} (hgd : o.guard = none) (s x : Operand)
    (ho : o.op = .call { callee := .builtin .append, args := #[s, x], argTypes := #[119, 119] }) (hI : In G w0 (RowH v cs :: RowH u ds :: l) w) (hs : a.eval s = v) (hx : a.eval x = u) (hl : cs.length + ds.length ≤ 1099511627776)
    (h : ∀ v' w', In G w0 (RowH v' (cs ++ ds) :: RowH u ds :: l) w' → K (a.put o.dst v') w') : if Region.wanted o (yielded ops a.tmps) = true then Oper.wp Tryz.prog o a w K Q else X := by
  obtain ⟨i0, hi0, hz0, hz1, hz2⟩ := info_parts handle_partsF
  refine step_append_row hgd s x 119 ho 46 i0 _ 2 16 Tryz.underlying119 hi0 hz0 hz1 hz2 rfl (by decide) hs hx hI.rowAt hI.swap.rowAt ?_ (by unfold maxLen; omega) (by omega) ?_
  · intro c hc
    obtain ⟨d, _, hd⟩ := List.mem_flatMap.1 hc
    simp [hC] at hd
    rcases hd with rfl | rfl <;> rfl
  · intro v' w' h1 h2 h3
    have := hI.appendN h1 h2 h3
    rw [← List.flatMap_append, ← List.length_append] at this
    exact h v' w' this

set_option maxHeartbeats 8000000 in
set_option maxRecDepth 100000 in
theorem funder_aux {p : Nat} {m : Fam} (hm : FamOk m) (hl : m.length ≤ 1099511627776) (rk : Hd → Nat) (R : Nat) (hr : Ranked m rk R) : ∀ (n : Nat) (a : Hd) {G : Nat → Prop} {w0 w : World} {l : List Assn}, R - rk a < n → In G w0 (FamA p m :: l) w →
    Calls Tryz.prog 92 #[.pointer (some ⟨p, 0, none⟩), hdV a] w fun e w' => ∃ v, e = .returned v ∧ In G w0 (RowH v (under m a) :: FamA p m :: l) w' := by
  intro n
  induction n with
  | zero => intro a G w0 w l h; omega
  | succ n ih =>
    intro a G w0 w l hn h
    have HI0 := Lib.hid h
    have IH := Lib.hid @ih
    have HN := Lib.hid hn
    have HR := Lib.hid hr
    have HM := Lib.hid hm
    clear h ih hn hr hm
    obtain ⟨a1, a2⟩ := a
    rw [hdV_eq]
    obtain ⟨i0, hi0, hz0, hz1, hz2⟩ := info_parts handle_partsF
    go_enter Tryz.func92, Tryz.ntmps92
    go_upto_region 2 with (fail)
    refine wp_abs (In G w0 (FamA p m :: Box w.heap.size 46 (ints [a1, a2]) :: l)) ((HI0.out.alloc 46 (ints [a1, a2])).swap) ?_
    generalize w.heap.size = ab
    intro w1 hI
    have k1 : row? w1 ab 0 2 = some (ints [a1, a2]) := hI.swap.blk.row_all rfl
    have HI1 := Lib.hid hI
    clear hI HI0
    go_wp2_with fail
    refine (fchildren_in HI1.out (a1, a2) hl).mono ?_
    rintro e w2 ⟨kv, rfl, hI2⟩
    obtain ⟨kA, kc, rfl, _, _, _⟩ := rowH_at hI2.rowAt
    have hkl := kids_len m (a1, a2)
    have HI2 : Hid (In G w0 (RowA 46 2 (.slice none 0 0) 0 [] :: RowH (.slice kA (kids m (a1, a2)).length kc) (kids m (a1, a2)) :: FamA p m :: Box ab 46 (ints [a1, a2]) :: l) w2) := In.nilRow hI2 _ _
    have HU := Lib.hid (underTo_all m HM.out (a1, a2))
    clear hI2 HI1 k1
    go_wp2_with fail
    go_loopw [12, 5] (fun i out w' => ∃ k : Nat, k ≤ (kids m (a1, a2)).length ∧ i = .int .i64 k ∧ In G w0 (RowH out (underTo m (a1, a2) k) :: RowH (.slice kA (kids m (a1, a2)).length kc) (kids m (a1, a2)) :: FamA p m :: Box ab 46 (ints [a1, a2]) :: l) w') (fun i _ _ => (kids m (a1, a2)).length - (intOf i).toNat)
    case atStart => exact ⟨0, Nat.zero_le _, rfl, HI2.out⟩
    case round =>
      clear HI2
      obtain ⟨k, hk, rfl, hI⟩ := hrel
      have HI := Lib.hid hI
      clear hI
      by_cases hlt : k < (kids m (a1, a2)).length
      · have hki : (k : Int) < (kids m (a1, a2)).length := by omega
        obtain ⟨A', c', e0, _, hkc, hrow⟩ := rowH_at HI.out.swap.rowAt
        injection e0 with e1 e2 e3
        subst e1; subst e3
        obtain ⟨g, rfl, q1⟩ := hrow k hlt
        have HS := Lib.hid (underTo_succ m (a1, a2) k hlt)
        have HMEM : Hid (mget m (kids m (a1, a2))[k] = some (a1, a2)) := (mem_kids HM.out.nodup).1 (List.getElem_mem hlt)
        have hle := underTo_le m HM.out (a1, a2) k
        have hle1 := underTo_le m HM.out (a1, a2) (k + 1)
        rw [HS.out] at hle1
        have hkc' : ((kids m (a1, a2)).length : Int) ≤ kc := by omega
        clear hrow e2
        generalize (kids m (a1, a2))[k] = c at *
        obtain ⟨c1, c2⟩ := c
        have hle2 := under_len HM.out.nodup HM.out.acyc (c1, c2)
        simp only [List.length_append, List.length_cons, List.length_nil] at hle1
        go_upto_region 5 with (fail)
        refine wp_abs (In G w0 (Box wr.heap.size 46 (ints [c1, c2]) :: RowH u5 (underTo m (a1, a2) k) :: RowH (.slice (some ⟨g, 0, none⟩) (kids m (a1, a2)).length kc) (kids m (a1, a2)) :: FamA p m :: Box ab 46 (ints [a1, a2]) :: l)) (HI.out.struct 46 [0, 0] [c1, c2] rfl) ?_
        generalize wr.heap.size = cb
        intro w3 hI3
        have q2 : row? w3 cb 0 2 = some #[.int .i64 c1, .int .i64 c2] := hI3.blk.row_all (xs := [c1, c2]) rfl
        have HI3 : Hid (In G w0 (FamA p m :: RowH u5 (underTo m (a1, a2) k) :: Box cb 46 (ints [c1, c2]) :: RowH (.slice (some ⟨g, 0, none⟩) (kids m (a1, a2)).length kc) (kids m (a1, a2)) :: Box ab 46 (ints [a1, a2]) :: l) w3) := (hI3.fourth).perm (((List.Perm.swap _ _ _)).cons _)
        clear hI3 q1
        have hRk : R - rk (c1, c2) < n := by
          have h1 := HR.out _ _ HMEM.out
          have h2 := HN.out
          omega
        have hl1 : (underTo m (a1, a2) k).length + 1 ≤ 1099511627776 := by omega
        have hl2 : (underTo m (a1, a2) k ++ [(c1, c2)]).length + (under m (c1, c2)).length ≤ 1099511627776 := by rw [List.length_append]; simp; omega
        have HNEW : Hid (∀ (L : List Assn) (W : World), In G w0 L W → In G w0 (RowH (.slice (some ⟨W.heap.size, 0, none⟩) 1 1) [(c1, c2)] :: L) (W.alloc (.cells #[.int .i64 c1, .int .i64 c2] 46))) := fun L W h => h.newOne 46 [.int .i64 c1, .int .i64 c2]
        have sA : row? (w3.alloc (.cells #[.int .i64 c1, .int .i64 c2] 46)) cb 0 2 = some #[.int .i64 c1, .int .i64 c2] := (HI3.out.third.blk.after ((Below.refl _ _).alloc (Nat.le_refl _) _)).row_all (xs := [c1, c2]) rfl
        have HSA := Lib.hid sA
        have HL1 := Lib.hid hl1
        have HL2 := Lib.hid hl2
        have HRK := Lib.hid hRk
        clear sA hl1 hl2 hRk hle hle1 hle2
        generalize hcs : underTo m (a1, a2) k = cs at *
        go_region_held3 (fun W => row? W cb 0 2 = some #[.int .i64 c1, .int .i64 c2]) (first | assumption | exact HSA.out | go_keep)
          (first
            | (go_at_call 92; refine (IH.out (c1, c2) HRK.out HI3.out.drew).mono ?_; rintro e w4 ⟨uv, rfl, hI4⟩; have s4 : row? w4 cb 0 2 = some #[.int .i64 c1, .int .i64 c2] := hI4.fourth.blk.row_all (xs := [c1, c2]) rfl; have H4 := Lib.hid hI4; clear hI4)
            | (go_at_call 92; refine (IH.out (c1, c2) HRK.out (HNEW.out _ _ HI3.out.drew).swap).mono ?_; rintro e w4 ⟨uv, rfl, hI4⟩; have s4 : row? w4 cb 0 2 = some #[.int .i64 c1, .int .i64 c2] := hI4.fifth.blk.row_all (xs := [c1, c2]) rfl; have H4 := Lib.hid hI4; clear hI4)
            | (go_at_call 92; refine (IH.out (c1, c2) HRK.out H5.out.third).mono ?_; rintro e w4 ⟨uv, rfl, hI4⟩; have s4 : row? w4 cb 0 2 = some #[.int .i64 c1, .int .i64 c2] := hI4.fifth.blk.row_all (xs := [c1, c2]) rfl; have H4 := Lib.hid hI4; clear hI4)
            | (refine step_appendH (by rfl) (.tmp 16) (.tmp 18) (by rfl) (HNEW.out _ _ HI3.out.drew).third (by rfl) (by rfl) HL1.out ?_; intro v1 w5 hI5; have s5 : row? w5 cb 0 2 = some #[.int .i64 c1, .int .i64 c2] := hI5.fourth.blk.row_all (xs := [c1, c2]) rfl; have H5 := Lib.hid hI5; clear hI5)
            | (refine step_appendH (by rfl) (.tmp 16) (.tmp 18) (by rfl) (HNEW.out _ _ H4.out).fourth (by rfl) (by rfl) HL1.out ?_; intro v1 w5 hI5; have s5 : row? w5 cb 0 2 = some #[.int .i64 c1, .int .i64 c2] := hI5.fifth.blk.row_all (xs := [c1, c2]) rfl; have H5 := Lib.hid hI5; clear hI5)
            | (refine step_appendH (by rfl) (.tmp 16) (.tmp 18) (by rfl) H4.out.fourth.fourth.swap (by rfl) (by rfl) HL1.out ?_; intro v1 w5 hI5; have s5 : row? w5 cb 0 2 = some #[.int .i64 c1, .int .i64 c2] := hI5.fifth.blk.row_all (xs := [c1, c2]) rfl; have H5 := Lib.hid hI5; clear hI5)
            | (refine step_appendH (by rfl) (.tmp 19) (.tmp 22) (by rfl) H5.out.swap.drop (by rfl) (by rfl) HL2.out ?_; intro v2 w6 hI6; have s6 : row? w6 cb 0 2 = some #[.int .i64 c1, .int .i64 c2] := hI6.fourth.blk.row_all (xs := [c1, c2]) rfl; have H6 := Lib.hid hI6; clear hI6)
            | (refine step_appendH (by rfl) (.tmp 19) (.tmp 22) (by rfl) H4.out.third.fourth.drop (by rfl) (by rfl) HL2.out ?_; intro v2 w6 hI6; have s6 : row? w6 cb 0 2 = some #[.int .i64 c1, .int .i64 c2] := hI6.fourth.blk.row_all (xs := [c1, c2]) rfl; have H6 := Lib.hid hI6; clear hI6))
        all_goals
          have HI7 : Hid (In G w0 (RowH v2 (cs ++ [(c1, c2)] ++ under m (c1, c2)) :: RowH (.slice (some ⟨g, 0, none⟩) (kids m (a1, a2)).length kc) (kids m (a1, a2)) :: FamA p m :: Box ab 46 (ints [a1, a2]) :: l) w6) := H6.out.swap.drop.third.drop.third.swap
          rw [← HS.out] at HI7
          clear H6
          go_wp2_with fail
          go_roundw
          case rel => exact ⟨k + 1, by omega, by go_num, HI7.out⟩
          case measure => simp [intOf]; omega
      · have : k = (kids m (a1, a2)).length := by omega
        subst this
        rw [HU.out] at HI
        go_wp2_with fail
        go_ret
        exact ⟨_, rfl, (HI.out.swap.drop.third.drop)⟩

end Go.Proofs.YtpgcghnlepnoiaaGreatDoor
