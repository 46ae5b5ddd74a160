/-
  The walk of the law ZooAtomic: all of a list, or nothing.
-/
import Derived.Test.YtjggdpnamakoeaaGreatZP45
set_option linter.unusedVariables false
set_option linter.unusedSimpArgs false
set_option linter.unusedSectionVars false
namespace Go.Proofs.YtjggdpnamakoeaaGreat
open Go.RowKit

theorem runA_prefix {s s' : ZL} {os : List OpM} (h : runA s os = some s') (k : Nat) : ∃ s1, runA s (os.take k) = some s1 ∧ runA s1 (os.drop k) = some s' := by
  rw [← List.take_append_drop k os, runA_append] at h
  obtain ⟨s1, h1, h2⟩ := Option.bind_eq_some_iff.1 h
  exact ⟨s1, h1, h2⟩
theorem runA_next {s s' s1 : ZL} {os : List OpM} (h : runA s os = some s') {k : Nat} (hk : k < os.length) (h1 : runA s (os.take k) = some s1) :
    (doZ s1.1 (opT s1.2 os[k])).2.2 = 0 ∧ runA s (os.take (k + 1)) = some ((doZ s1.1 (opT s1.2 os[k])).1, if os[k].d = 1 then s1.2 ++ [(doZ s1.1 (opT s1.2 os[k])).2.1] else s1.2) := by
  obtain ⟨s2, h2, _⟩ := runA_prefix h (k + 1)
  have h3 := runA_snoc hk h1
  rw [h2] at h3
  obtain ⟨e1, e2, e3⟩ := stepA_do h3.symm
  refine ⟨e1, ?_⟩
  rw [h2, ← e2, ← e3]
theorem opT_v {sp : List Hd} {o : OpM} : (opT sp o).b = o.b ∧ (opT sp o).d = o.d := by
  unfold opT; split <;> exact ⟨rfl, rfl⟩
section
variable {G : Nat → Prop} {w0 w : World} {l : List Assn} {cb : Nat} {sv : Value} {sp : List Hd}
set_option maxHeartbeats 2000000 in
set_option maxRecDepth 100000 in
theorem meant_any (x : Hd) (h : In G w0 (Box cb 57 #[sv] :: RowH sv sp :: l) w) (hsp : sp.length ≤ 80) :
    Calls Tryz.prog 18 #[.agg (ints [x.1, x.2]), .pointer (some ⟨cb, 0, none⟩)] w fun e w' => e = .returned (.agg (ints [(meantT sp x).1, (meantT sp x).2])) ∧ Below w.heap.size w w' := by
  obtain ⟨As, cs, rfl, hcs1, hcs2, _⟩ := rowH_at h.swap.rowAt
  have H0 := Lib.hid h
  clear h
  obtain ⟨s, g2⟩ := x
  have hlc : (sp.length : Int) ≤ cs := by omega
  go_enter Tryz.func18, Tryz.ntmps18
  go_upto_region 1 with (fail)
  refine wp_abs (fun w' => Blk w' (w.heap.size + 1) 41 (ints [0, 0]) ∧ Blk w' w.heap.size 41 (ints [s, g2]) ∧ Below w.heap.size w w') ⟨by
    have := Blk.new (w.alloc (.cells (ints [s, g2]) 41)) 41 (ints [0, 0])
    rwa [World.size_alloc] at this, (Blk.new w _ _).alloc _, ((Below.refl _ _).alloc (Nat.le_refl _) _).alloc (by simp) _⟩ ?_
  have hrb : w.heap.size ≤ w.heap.size + 1 := by omega
  generalize w.heap.size + 1 = rb at *
  generalize hob : w.heap.size = ob at *
  rintro w1 ⟨hR, hB, hb⟩
  rw [← hob] at hb
  have hI := H0.out.below hb
  rw [hob] at hb
  have c0 : w1.cell? ⟨ob, 0, none⟩ = some (.int .i64 s) := hB.int 0 (by simp)
  have c1 : w1.cell? ⟨cb, 0, none⟩ = some (.slice As sp.length cs) := hI.blk.cell 0
  have r1 : row? w1 ob 0 2 = some (ints [s, g2]) := hB.row_all rfl
  have f1 : fits w1 rb 0 2 = true := hR.fits 0 2 (by rw [ints_size]; simp)
  have HR := Lib.hid hR
  have HB := Lib.hid hb
  have HI := Lib.hid hI
  have HPB : Hid (∀ y : List Int, Below ob w (putRow w1 rb 0 y)) := fun y => below_put HB.out hrb 0 y
  clear hR hB hb hI H0
  by_cases hs : s < 0
  · have hwl : wrap64 (-(sp.length : Int)) = -(sp.length : Int) := IntWalk.wrap64_in _ (by omega)
    by_cases hf : s < -(sp.length : Int)
    · have HM : Hid (meantT sp (s, g2) = (s, g2)) := by
        unfold Hid meantT
        rw [if_neg (by simp only; omega)]
      have hf' : ¬ (-(sp.length : Int) ≤ s) := by omega
      go_wp2_with fail
      refine bodyPost_row rfl rb 41 (ints [s, g2]) _ rfl (HR.out.put_all [s, g2] rfl) Tryz.underlying41 rfl (by rw [ints_size]; exact handle_info) rfl ?_
      rw [HM.out]
      exact ⟨rfl, HPB.out _⟩
    · have hf' : -(sp.length : Int) ≤ s := by omega
      obtain ⟨i, hi, hsi, _, hm2⟩ := meant_at (sp := sp) (x := (s, g2)) hs hf
      have hws : wrap64 (-s) = -s := IntWalk.wrap64_in _ (by omega)
      have hwd : wrap64 (-s - 1) = (i : Int) := by rw [hsi]; exact IntWalk.wrap64_in _ (by omega)
      have hi0 : (0 : Int) ≤ (i : Int) := by omega
      have hi1 : (i : Int) < sp.length := by omega
      obtain ⟨As', cs', e0, _, _, hrow⟩ := rowH_at HI.out.swap.rowAt
      injection e0 with e1 e2 e3
      subst e1; subst e3
      obtain ⟨gs, rfl, q5⟩ := hrow i hi
      have HM2 := Lib.hid hm2
      clear hm2 hrow e2
      generalize sp[i] = y at *
      obtain ⟨y1, y2⟩ := y
      have hii : i = (-s).toNat - 1 := by omega
      have q6 : row? w1 gs (((-s).toNat - 1) * 2) 2 = some (ints [y1, y2]) := by rw [← hii]; exact q5
      clear hii
      go_wp2_with fail
      refine bodyPost_row rfl rb 41 (ints [y1, y2]) _ rfl (HR.out.put_all [y1, y2] rfl) Tryz.underlying41 rfl (by rw [ints_size]; exact handle_info) rfl ?_
      rw [HM2.out]
      exact ⟨rfl, HPB.out _⟩
  · have HM : Hid (meantT sp (s, g2) = (s, g2)) := by
      unfold Hid meantT
      rw [if_neg (by simp only; omega)]
    go_wp2_with fail
    refine bodyPost_row rfl rb 41 (ints [s, g2]) _ rfl (HR.out.put_all [s, g2] rfl) Tryz.underlying41 rfl (by rw [ints_size]; exact handle_info) rfl ?_
    rw [HM.out]
    exact ⟨rfl, HPB.out _⟩
set_option maxHeartbeats 4000000 in
set_option maxRecDepth 100000 in
theorem zooAtomic_any (A A' : Option Addr) (c c' : Nat) (os bs : List OpM) (w : World) (H : OpsIn w w.heap.size A os) (hlen : os.length ≤ 1099511627744) (hb8 : ∀ o ∈ os, o.b.v.length = 8)
    (H' : OpsIn w w.heap.size A' bs) (hlen' : bs.length ≤ 1099511627744) (hb8' : ∀ o ∈ bs, o.b.v.length = 8) (hcb : bs.length ≤ c') :
    Calls Tryz.prog 6 #[.slice A os.length c, .slice A' bs.length c'] w fun e w' => e = .returned (.bool true) ∧ Below w.heap.size w w' := by
  have HO : Hid (OpsAt (fun _ => False) w w.heap.size A os) := OpsAt.of_arg H
  have HOB : Hid (OpsAt (fun _ => False) w w.heap.size A' bs) := OpsAt.of_arg H'
  have H8 := Lib.hid hb8
  have H8B := Lib.hid hb8'
  have HOK := Lib.hid (doneZ_ok hb8)
  have hmf : ∀ (fn : Fn) (first cap : Array Value) (w : World), (Instr.makeFunc fn first cap).run Tryz.prog w = .ok (.func fn first cap) w := fun _ _ _ _ => rfl
  obtain ⟨i0, hi0, hz0, hz1, hz2⟩ := info_parts handle_partsF
  clear H hb8 H' hb8'
  go_enter Tryz.func6, Tryz.ntmps6
  go_wp2_with fail
  refine (kept_any w).mono ?_
  rintro e w1 ⟨rfl, hb1⟩
  have HI1 := Lib.hid ((In.nil w (fun _ => False)).below hb1)
  clear hb1
  go_wp2_with fail
  refine (zdone_in (c := c) HO.out (by omega) H8.out HI1.out).mono ?_
  rintro e w2 ⟨p, rfl, hI2⟩
  generalize doneZ os = z at *
  have HI2 := Lib.hid hI2
  clear hI2 HI1
  go_wp2_with fail
  refine (zstateS_in HI2.out HOK.out).mono ?_
  rintro e w3 ⟨A1, c1, A2, c2, A3, c3, rfl, hI3⟩
  go_upto_region 7 with (fail)
  refine wp_abs (In (fun _ => False) w [ZooA p z, Box w3.heap.size 33 #[.slice A1 (gensL z.ls).length c1, .slice A2 z.rows.length c2, .slice A3 z.B.length c3], IntsA (.slice A1 (gensL z.ls).length c1) (gensL z.ls), RowsA (.slice A2 z.rows.length c2) z.rows, RowB (.slice A3 z.B.length c3) z.B]) ((hI3.newState _ _ _).reorder 5 [4, 0, 1, 2, 3] rfl (by simp)) ?_
  generalize w3.heap.size = sb
  clear hI3 HI2
  intro w4 hI4
  have HI4 := Lib.hid hI4
  clear hI4
  go_wp2_with fail
  refine (zall_in (c := c') HOB.out (by omega) H8B.out HOK.out HI4.out).mono ?_
  rintro e w5 ⟨n, e', rfl, hp⟩
  rcases hp with ⟨z', spf, h80, hr, rfl, rfl, hI5⟩ | ⟨he, hn0, hn1, _, hI5⟩
  rotate_left
  · have he' : (e' != 0) = true := by simpa using he
    have HFS : Hid (∀ W L, In (fun _ => False) w (ZooA p z :: Box sb 33 #[.slice A1 (gensL z.ls).length c1, .slice A2 z.rows.length c2, .slice A3 z.B.length c3] :: L) W → row? W sb 0 3 = some #[.slice A1 (gensL z.ls).length c1, .slice A2 z.rows.length c2, .slice A3 z.B.length c3]) := fun W L h => by rw [h.swap.blk.row 0 3 (by simp)]; rfl
    have q3 := HFS.out _ _ hI5
    have HI6 := Lib.hid hI5
    clear hI5 HI4
    go_upto_region 9 with (fail)
    go_region_held3 (fun W => row? W sb 0 3 = some #[.slice A1 (gensL z.ls).length c1, .slice A2 z.rows.length c2, .slice A3 z.B.length c3])
      (assumption)
      (first
        | (go_at_call 13; refine (same_in HI8.out).mono ?_; rintro e w9 ⟨rfl, hb9⟩; have HI9 := Lib.hid (HI8.out.below hb9); have t1 := HFS.out _ _ (HI9.out.reorder 8 [6, 7, 0, 1, 2, 3, 4, 5] rfl (by simp)); have HB := Lib.hid HI9.out.below0; clear hb9)
        | (go_at_call 12; refine (zstate_in HI6.out.drew HOK.out).mono ?_; rintro e w8 ⟨gv, rv, bv, rfl, hI8⟩; have s1 := HFS.out _ _ hI8.drop.drop.drop; have HI8 : Hid (In (fun _ => False) w [IntsA gv (gensL z.ls), RowsA rv z.rows, RowB bv z.B, IntsA (.slice A1 (gensL z.ls).length c1) (gensL z.ls), RowsA (.slice A2 z.rows.length c2) z.rows, RowB (.slice A3 z.B.length c3) z.B, ZooA p z, Box sb 33 #[.slice A1 (gensL z.ls).length c1, .slice A2 z.rows.length c2, .slice A3 z.B.length c3]] w8) := hI8.reorder 8 [0, 1, 2, 5, 6, 7, 3, 4] rfl (by simp); clear hI8))
    all_goals
      go_wp2_with fail
      go_ret
      exact ⟨rfl, HB.out⟩
  have HZ' : Hid (ZOk z') := runA_ok (s := (z, [])) HOK.out H8B.out hr
  have HRUN := Lib.hid hr
  have q3 : row? w5 sb 0 3 = some #[.slice A1 (gensL z.ls).length c1, .slice A2 z.rows.length c2, .slice A3 z.B.length c3] := by rw [hI5.swap.blk.row 0 3 (by simp)]; rfl
  have hI5' : In (fun _ => False) w [IntsA (.slice A1 (gensL z.ls).length c1) (gensL z.ls), RowsA (.slice A2 z.rows.length c2) z.rows, RowB (.slice A3 z.B.length c3) z.B, ZooA p z'] w5 := hI5.swap.drop.reorder 4 [1, 2, 3, 0] rfl (by simp)
  have HI5 := Lib.hid hI5'
  clear hI5 hI5' HI4 hr
  go_wp2_with fail
  refine (zload_in HI5.out HOK.out).mono ?_
  rintro e w6 ⟨q, rfl, hI6⟩
  have hI6 := hI6.swap.drop.swap.drop.swap.drop
  go_upto_region 14 with (fail)
  refine wp_abs (In (fun _ => False) w [Box w6.heap.size 57 #[.slice none 0 0], ZooA q z, ZooA p z']) (hI6.alloc 57 #[.slice none 0 0]) ?_
  generalize w6.heap.size = cb
  clear hI6 HI5 q3
  intro w7 hI7
  have HI7 : Hid (In (fun _ => False) w [ZooA q z, Box cb 57 #[.slice none 0 0], RowH (.slice none 0 0) [], ZooA p z'] w7) := by
    have := (hI7.nilRow 41 2)
    exact this.reorder 4 [2, 1, 0, 3] rfl (by simp)
  clear hI7
  go_wp2_with fail
  go_loopw [67] (fun i w' => ∃ (k : Nat) (zk : ZS) (sp : List Hd) (sv : Value), k ≤ bs.length ∧ i = .int .i64 k ∧ runA (z, []) (bs.take k) = some (zk, sp) ∧ sp.length ≤ k ∧ In (fun _ => False) w [ZooA q zk, Box cb 57 #[sv], RowH sv sp, ZooA p z'] w') (fun i _ => bs.length - (intOf i).toNat)
  case atStart => exact ⟨0, z, [], _, Nat.zero_le _, rfl, rfl, Nat.zero_le _, HI7.out⟩
  case round =>
    clear HI7
    obtain ⟨k, zk, sp, sv, hk, rfl, hrun, hspl, hI⟩ := hrel
    by_cases hlt : k < bs.length
    · have hki : (k : Int) < bs.length := by omega
      obtain ⟨b, o, rfl, hbl, q1⟩ := (HOB.out hI.bare).at_ hlt
      have HV8 : Hid (bs[k].b.v.length = 8) := H8B.out _ (List.getElem_mem hlt)
      have h16 : (OpM.list bs[k]).length = 16 := OpM.len HV8.out
      have HOK2 : Hid (ZOk zk) := runA_ok (s := (z, [])) HOK.out (fun o ho => H8B.out o (List.mem_of_mem_take ho)) hrun
      have HNX := Lib.hid (runA_next HRUN.out hlt hrun)
      have hsp80 : sp.length ≤ 80 := by omega
      have hkc : (bs.length : Int) ≤ c' := by omega
      have HI := Lib.hid hI
      clear hI hrun
      generalize bs[k] = op at *
      go_upto_region 18 with (fail)
      refine wp_abs (In (fun _ => False) w [Box wr.heap.size 43 (ints op.list), ZooA q zk, Box cb 57 #[sv], RowH sv sp, ZooA p z']) (HI.out.struct 43 [0, 0, 0, 0, 0, 0, 0, 0, 0, 0, 0, 0, 0, 0, 0, 0] op.list h16) ?_
      generalize wr.heap.size = ob
      intro w8 hI8
      have hd10 := op_drop10 op HV8.out
      have q0 : w8.cell? ⟨ob, 0, none⟩ = some (.int .i64 op.d) := hI8.blk.cell 0
      have q10 : row? w8 ob 10 2 = some (ints [op.a.1, op.a.2]) := by rw [hI8.blk.row_ints 10 2 (by omega), hd10]; rfl
      have q12 : row? w8 ob 12 2 = some (ints [op.t.1, op.t.2]) := by
        rw [hI8.blk.row_ints 12 2 (by omega), show (12 : Nat) = 10 + 2 from rfl, ← List.drop_drop, hd10]; rfl
      have f10 : fits w8 ob 10 2 = true := hI8.blk.fits 10 2 (by rw [ints_size, h16]; omega)
      have f12 : fits w8 ob 12 2 = true := hI8.blk.fits 12 2 (by rw [ints_size, h16]; omega)
      have HI8 := Lib.hid hI8
      clear hI8 HI q1 hd10
      have HOPT : Hid (op.d = 1 → opT sp op = op) := fun h => by unfold opT; rw [if_pos h]
      have HOPT2 : Hid (op.d ≠ 1 → opT sp op = { op with a := meantT sp op.a, t := meantT sp op.t }) := fun h => by unfold opT; rw [if_neg h]
      by_cases hd1 : op.d = 1
      · have hd : (op.d != 1) = false := by simp [hd1]
        have hnx := HNX.out
        rw [if_pos hd1] at hnx
        simp only [HOPT.out hd1] at hnx
        have hdr := hnx.1
        have HRN := Lib.hid hnx.2
        have q16 : row? w8 ob 0 16 = some (ints op.list) := HI8.out.blk.row_all h16
        have HE := Lib.hid HI8.out.swap
        clear hnx HNX q10 q12 f10 f12 HOPT HOPT2 HI8
        go_wp2_with fail
        refine (zdo_in HE.out HOK2.out op HV8.out).mono ?_
        rintro e w12 ⟨rfl, hI12⟩
        rw [hdr]
        generalize doZ zk op = r at *
        obtain ⟨z2, ⟨x1, x2⟩, E⟩ := r
        simp only at hI12 HRN ⊢
        clear hdr
        go_upto_region 21 with (fail)
        refine wp_abs (In (fun _ => False) w [Box w12.heap.size 41 (ints [x1, x2]), ZooA q z2, Box ob 43 (ints op.list), Box cb 57 #[sv], RowH sv sp, ZooA p z']) (hI12.struct 41 [0, 0] [x1, x2] rfl) ?_
        generalize w12.heap.size = hb
        clear hI12 HE q16 q0
        intro w13 hI13
        have q0 : w13.cell? ⟨ob, 0, none⟩ = some (.int .i64 op.d) := hI13.third.blk.cell 0
        have hd' : (op.d == 1) = true := by simp [hd1]
        have q4 : row? w13 hb 0 2 = some (ints [x1, x2]) := hI13.blk.row_all rfl
        have HI13 : Hid (In (fun _ => False) w [RowH sv sp, Box cb 57 #[sv], ZooA q z2, ZooA p z', Box hb 41 (ints [x1, x2]), Box ob 43 (ints op.list)] w13) := hI13.reorder 6 [4, 3, 1, 5, 0, 2] rfl (by simp)
        have q5 : w13.cell? ⟨cb, 0, none⟩ = some sv := HI13.out.swap.blk.cell 0
        have HO := Lib.hid HI13.out.rowAt
        clear hI13 hd hd1
        generalize op.d = d at *
        go_wp2_with (at_builtin; go_loud (refine wpList_append1_at rfl _ _ 57 rfl 0 41 i0 _ 2 16 Tryz.underlying57 hi0 hz0 hz1 hz2 rfl (by decide) sv sp.length (sp.flatMap hC) rfl HO.out [.int .i64 x1, .int .i64 x2] rfl rfl (by simp [Value.oneCell']) ?_ ?_ (Nat.zero_le _) ?_))
        case refine_1 => unfold maxLen; omega
        case refine_2 => omega
        intro v' w14 ho hg hor
        have hI14 := In.appendH (x := (x1, x2)) HI13.out ho hg hor
        obtain ⟨A4, c4, rfl, _⟩ := own_form hI14.rowAt
        have hln : (sp ++ [(x1, x2)]).length = sp.length + 1 := by simp
        rw [hln] at hI14
        have q7 : w14.cell? ⟨cb, 0, none⟩ = some sv := hI14.swap.blk.cell 0
        have q6 : w14.frozen? ⟨cb, 0, none⟩ = false := hI14.swap.blk.frozen 0
        have HI14 := Lib.hid (hI14.swap.set 0 (.slice A4 (sp.length + 1) c4))
        clear ho hg hor hI14 HI13 HO q4 q0 q5
        go_wp2_with fail
        clear q6 q7 hmf
        go_roundw
        case rel => exact ⟨k + 1, z2, sp ++ [(x1, x2)], _, by omega, by go_num, HRN.out, by simp; omega, (HI14.out.reorder 6 [4, 5, 2, 0, 1, 3] rfl (by simp)).drop.drop⟩
        case measure => simp [intOf]; omega
      · have hd : (op.d != 1) = true := by simp [hd1]
        have HIC : Hid (In (fun _ => False) w [Box cb 57 #[sv], RowH sv sp, Box ob 43 (ints op.list), ZooA q zk, ZooA p z'] w8) := HI8.out.reorder 5 [2, 3, 0, 1, 4] rfl (by simp)
        have HFS : Hid (∀ W, In (fun _ => False) w [Box cb 57 #[sv], RowH sv sp, Box ob 43 (ints op.list), ZooA q zk, ZooA p z'] W → row? W ob 12 2 = some (ints [op.t.1, op.t.2]) ∧ fits W ob 10 2 = true ∧ fits W ob 12 2 = true) := fun W h => by
          have hb := h.third.blk
          have hd10 := op_drop10 op HV8.out
          refine ⟨?_, hb.fits 10 2 (by rw [ints_size, h16]; omega), hb.fits 12 2 (by rw [ints_size, h16]; omega)⟩
          rw [hb.row_ints 12 2 (by omega), show (12 : Nat) = 10 + 2 from rfl, ← List.drop_drop, hd10]; rfl
        clear f10 f12 HI8
        go_upto_region 19 with (fail)
        go_region_with (first
          | (go_at_call 18; refine (meant_any op.t HI9.out hsp80).mono ?_; rintro e w10 ⟨rfl, hb10⟩; have HI10 := Lib.hid (HI9.out.below hb10); obtain ⟨t1, t2, t3⟩ := HFS.out _ HI10.out; have t4 := fits_again (o' := 10) (ys := [(meantT sp op.a).1, (meantT sp op.a).2]) t3 t2; have t5 := fits_again (o' := 12) (ys := [(meantT sp op.t).1, (meantT sp op.t).2]) t2 t3; clear hb10)
          | (go_at_call 18; refine (meant_any op.a HIC.out.drew hsp80).mono ?_; rintro e w9 ⟨rfl, hb9⟩; have HI9 := Lib.hid (HIC.out.drew.below hb9); obtain ⟨s1, s2, s3⟩ := HFS.out _ HI9.out; clear hb9))
        all_goals
          have HE : Hid (In (fun _ => False) w [ZooA q zk, Box ob 43 (ints (opT sp op).list), Box cb 57 #[sv], RowH sv sp, ZooA p z'] (putRow (putRow w10 ob 10 [(meantT sp op.a).1, (meantT sp op.a).2]) ob 12 [(meantT sp op.t).1, (meantT sp op.t).2])) := by
            have h1 := (HI10.out.third).put 10 [(meantT sp op.a).1, (meantT sp op.a).2]
            rw [show 10 + [(meantT sp op.a).1, (meantT sp op.a).2].length = 10 + 2 from rfl, op_set HV8.out (Or.inl rfl) (meantT sp op.a)] at h1
            have h2 := h1.put 12 [(meantT sp op.t).1, (meantT sp op.t).2]
            rw [show 12 + [(meantT sp op.t).1, (meantT sp op.t).2].length = 12 + 2 from rfl, op_set (by rw [(setO_b _ _ _).1]; exact HV8.out) (Or.inr rfl) (meantT sp op.t)] at h2
            have h3 : setO (setO op 10 (meantT sp op.a)) 12 (meantT sp op.t) = opT sp op := by rw [HOPT2.out hd1]; rfl
            rw [h3] at h2
            exact h2.reorder 5 [3, 0, 1, 2, 4] rfl (by simp)
          generalize putRow (putRow w10 ob 10 [(meantT sp op.a).1, (meantT sp op.a).2]) ob 12 [(meantT sp op.t).1, (meantT sp op.t).2] = w11 at *
          have hnx := HNX.out
          rw [if_neg hd1] at hnx
          have hv1 : (opT sp op).b.v.length = 8 := by rw [opT_v.1]; exact HV8.out
          have hdd : (opT sp op).d = op.d := opT_v.2
          generalize opT sp op = o1 at *
          have hdr := hnx.1
          have HRN := Lib.hid hnx.2
          have q16 : row? w11 ob 0 16 = some (ints o1.list) := HE.out.swap.blk.row_all (OpM.len hv1)
          have HV1 := Lib.hid hv1
          clear hnx HNX hv1 HI10 HI9 HIC t1 t2 t3 t4 t5 s1 s2 s3 q10 q12 q0 HOPT HOPT2 HFS
          go_wp2_with fail
          refine (zdo_in HE.out HOK2.out o1 HV1.out).mono ?_
          rintro e w12 ⟨rfl, hI12⟩
          rw [hdr]
          generalize doZ zk o1 = r at *
          obtain ⟨z2, ⟨x1, x2⟩, E⟩ := r
          simp only at hI12 HRN ⊢
          clear hdr
          go_upto_region 21 with (fail)
          refine wp_abs (In (fun _ => False) w [Box w12.heap.size 41 (ints [x1, x2]), ZooA q z2, Box ob 43 (ints o1.list), Box cb 57 #[sv], RowH sv sp, ZooA p z']) (hI12.struct 41 [0, 0] [x1, x2] rfl) ?_
          generalize w12.heap.size = hb
          clear hI12 HE q16
          intro w13 hI13
          have q0 : w13.cell? ⟨ob, 0, none⟩ = some (.int .i64 o1.d) := hI13.third.blk.cell 0
          rw [hdd] at q0
          have hd' : (op.d == 1) = false := by simp [hd1]
          have HI13 : Hid (In (fun _ => False) w [ZooA q z2, Box cb 57 #[sv], RowH sv sp, ZooA p z'] w13) := hI13.drop.swap.drop
          clear hI13 hdd hd hd1
          generalize op.d = d at *
          go_wp2_with fail
          clear q0 hmf
          go_roundw
          case rel => exact ⟨k + 1, z2, sp, sv, by omega, by go_num, HRN.out, by omega, HI13.out⟩
          case measure => simp [intOf]; omega
    · have : k = bs.length := by omega
      subst this
      rw [List.take_length, HRUN.out] at hrun
      injection hrun with hrun
      injection hrun with hz hs
      subst hz
      have HI := Lib.hid (hI.swap.drop.swap.drop)
      clear hI
      go_wp2_with fail
      refine (zstate_in HI.out HZ'.out).mono ?_
      rintro e w8 ⟨gv, rv, bv, rfl, hI8⟩
      have hI8' : In (fun _ => False) w [ZooA p z', IntsA gv (gensL z'.ls), RowsA rv z'.rows, RowB bv z'.B, ZooA q z'] w8 := hI8.reorder 5 [4, 0, 1, 2, 3] rfl (by simp)
      have HI8 := Lib.hid hI8'
      clear hI8 hI8' HI
      go_wp2_with fail
      refine (zstate_in HI8.out HZ'.out).mono ?_
      rintro e w9 ⟨gv2, rv2, bv2, rfl, hI9⟩
      have hI9' : In (fun _ => False) w [IntsA gv (gensL z'.ls), RowsA rv z'.rows, RowB bv z'.B, IntsA gv2 (gensL z'.ls), RowsA rv2 z'.rows, RowB bv2 z'.B, ZooA p z', ZooA q z'] w9 := hI9.reorder 8 [4, 5, 6, 0, 1, 2, 3, 7] rfl (by simp)
      have HI9 := Lib.hid hI9'
      clear hI9 hI9' HI8
      go_wp2_with fail
      refine (same_in HI9.out).mono ?_
      rintro e w10 ⟨rfl, hb10⟩
      have HB := Lib.hid (HI9.out.below hb10).below0
      clear hb10 HI9
      go_wp2_with fail
      go_ret
      exact ⟨rfl, HB.out⟩
end

end Go.Proofs.YtjggdpnamakoeaaGreat
