/-
  The walk of the law ZooBonds: bonds are of living ones; with one that is killed all under it are gone, and nobody else.
-/
import Derived.Test.YtjggdpnamakoeaaGreatZooBondsMathP
import Derived.Test.YtjggdpnamakoeaaGreatZP45
set_option linter.unusedVariables false
set_option linter.unusedSimpArgs false
set_option linter.unusedSectionVars false
namespace Go.Proofs.YtjggdpnamakoeaaGreat
open Go.RowKit

section
variable {P : Program} {κ ν : Type} {k : TypeId} {ek : κ → Value} {ev : ν → Value} {good : κ → Prop} {w : World}
/-- a literal map's entry -/
theorem wpList_insert [DecidableEq κ] (K : KeyOk P k ek good) {ops : Array Oper} {rest : List Oper} {o : Oper} {a : Act} {Q : Exit → Act → World → Prop} (hgd : o.guard = none) (mo xo vo : Operand) (t e : TypeId) (hop : o.op = Op.insert t mo xo vo)
    (ht : P.underlying t = some (.map k e)) (b : Nat) (m : List (κ × ν)) (hm : a.eval mo = .map (some b)) (h : MapAt ek ev good w b m) (x : κ) (hx : a.eval xo = ek x) (hgx : good x) (v : ν) (hv : a.eval vo = ev v)
    (hK : ∀ w', MapAt ek ev good w' b (mput m x v) → Only (· = b) w w' → w'.heap.size = w.heap.size → wpList P ops Q rest (a.put o.dst undef) w') : wpList P ops Q (o :: rest) a w := by
  refine wpList_plain hgd fun K' hK' => ?_
  obtain ⟨w', hrun, h1, h2, h3⟩ := h.store K ht hgx v
  unfold Oper.wp
  simp [execOp, hop, hm, hx, hv, hrun, Result.andThen]
  exact hK' _ _ (hK w' h1 h2 h3)
end
theorem row_take {w : World} {g o n m : Nat} {xs : List Int} (h : row? w g o n = some (ints xs)) (hm : m ≤ n) (hl : xs.length = n) : row? w g o m = some (ints (xs.take m)) := by
  unfold row? at *
  split at h
  · rename_i cs t fr hg
    split at h
    · rename_i hn
      injection h with h
      rw [if_pos (by omega)]
      congr 1
      have e : cs.extract o (o + m) = (cs.extract o (o + n)).extract 0 m := by
        apply Array.ext'
        simp only [Array.toList_extract, List.extract_eq_take_drop]
        rw [List.drop_zero, List.take_take]
        congr 1
        omega
      rw [e, h]
      apply Array.ext'
      rw [Array.toList_extract, ints_toList, ints_toList, List.extract_eq_take_drop, List.drop_zero, Nat.sub_zero, List.map_take]
    · cases h
  · cases h
theorem rowE_head (r : RowM) : (rowE r).take 2 = [r.h.1, r.h.2] := by
  unfold rowE fixL RowM.list
  simp
attribute [local go_sem] putVals_size World.size_alloc
abbrev HSetA (b : Nat) (m : List (Hd × Bool)) : Assn := MapA hdV Value.bool (fun _ => True) b m
theorem setLook {w : World} {b : Nat} {m : List (Hd × Bool)} {S : List Hd} (h : MapAt hdV Value.bool (fun _ => True) w b m) (hs : SetM m S) (x y : Int) (v : Bool) (hv : decide ((x, y) ∈ S) = v) :
    (Instr.lookup 47 (.map (some b)) (.agg #[.int .i64 x, .int .i64 y]) false).run Tryz.prog w = .ok (.bool v) w := by
  have := MapAt.look keyHd h (t := 47) Tryz.underlying47 (zero_bool _) (x := (x, y)) trivial false
  refine this.trans ?_
  rw [hs (x, y), ← hv]
  by_cases e : (x, y) ∈ S
  · rw [if_pos e, decide_eq_true e]; rfl
  · rw [if_neg e, decide_eq_false e]; rfl
theorem stepG_in {S : List Hd} {b : Hd × Hd} (h : b.2 ∈ S) : stepG S b = b.1 :: S := if_pos h
theorem stepG_out {S : List Hd} {b : Hd × Hd} (h : b.2 ∉ S) : stepG S b = S := if_neg h
def bOp (h : Hd) : OpM := ⟨2, ⟨0, [0, 0, 0, 0, 0, 0, 0, 0]⟩, h, (0, 0), 0, 0⟩
set_option maxHeartbeats 8000000 in
set_option maxRecDepth 100000 in
theorem zooBonds_any (A : Option Addr) (c : Nat) (os : List OpM) (x : Int) (w : World) (H : OpsIn w w.heap.size A os) (hlen : os.length ≤ 1099511627776) (hb8 : ∀ o ∈ os, o.b.v.length = 8) :
    Calls Tryz.prog 5 #[.slice A os.length c, .int .i64 x] w fun e w' => e = .returned (.bool true) ∧ Below w.heap.size w w' := by
  have HO : Hid (OpsAt (fun _ => False) w w.heap.size A os) := OpsAt.of_arg H
  have H8 := Lib.hid hb8
  have HOK := Lib.hid (doneZ_ok hb8)
  have hmm := @run_makeMap Tryz.prog
  clear H hb8
  go_enter Tryz.func5, Tryz.ntmps5
  go_wp2_with fail
  refine (kept_any w).mono ?_
  rintro e w1 ⟨rfl, hb1⟩
  have HI1 := Lib.hid ((In.nil w (fun _ => False)).below hb1)
  clear hb1
  go_wp2_with fail
  refine (zdone_in (c := c) HO.out hlen H8.out HI1.out).mono ?_
  rintro e w2 ⟨p, rfl, hI2⟩
  generalize doneZ os = z at *
  have HI2 := Lib.hid hI2
  clear hI2 HI1 HO H8
  go_wp2_with fail
  refine (zstateS_in HI2.out HOK.out).mono ?_
  rintro e w3 ⟨A1, c1, A2, c2, A3, c3, rfl, hI3⟩
  have hrl : z.rows.length ≤ 60 := allW_len HOK.out.w
  have hbl : z.B.length ≤ 60 := HOK.out.len
  go_upto_region 8 with (fail)
  refine wp_abs (In (fun _ => False) w [HSetA (w3.heap.size + 1) [], ZooA p z, Box w3.heap.size 33 #[.slice A1 (gensL z.ls).length c1, .slice A2 z.rows.length c2, .slice A3 z.B.length c3], RowsA (.slice A2 z.rows.length c2) z.rows, RowB (.slice A3 z.B.length c3) z.B]) (by
    have h1 : In (fun _ => False) w [ZooA p z, Box w3.heap.size 33 #[.slice A1 (gensL z.ls).length c1, .slice A2 z.rows.length c2, .slice A3 z.B.length c3], RowsA (.slice A2 z.rows.length c2) z.rows, RowB (.slice A3 z.B.length c3) z.B, IntsA (.slice A1 (gensL z.ls).length c1) (gensL z.ls)] _ := (hI3.newState _ _ _).reorder 5 [4, 0, 2, 3, 1] rfl (by simp)
    have h2 := (h1.reorder 5 [4, 0, 1, 2, 3] rfl (by simp)).drop.newMap hdV Value.bool (fun _ => True)
    rw [putVals_size, World.size_alloc] at h2
    exact h2) ?_
  generalize w3.heap.size + 1 = mb
  generalize w3.heap.size = sb
  clear hI3 HI2 hmm
  intro w4 hI4
  have HFS : Hid (∀ {W : World} {X : Assn} {L : List Assn}, In (fun _ => False) w (X :: ZooA p z :: Box sb 33 #[.slice A1 (gensL z.ls).length c1, .slice A2 z.rows.length c2, .slice A3 z.B.length c3] :: L) W → W.cell? ⟨sb, 1, none⟩ = some (.slice A2 z.rows.length c2) ∧ W.cell? ⟨sb, 2, none⟩ = some (.slice A3 z.B.length c3)) := fun h => ⟨h.third.blk.cell 1, h.third.blk.cell 2⟩
  obtain ⟨s1, s2⟩ := HFS.out hI4
  have HI4 := Lib.hid hI4
  clear hI4
  go_wp2_with fail
  -- the living
  go_loopw [33] (fun i w' => ∃ (k : Nat) (m : List (Hd × Bool)), k ≤ z.rows.length ∧ i = .int .i64 k ∧ SetM m (handS z.rows k) ∧ In (fun _ => False) w [HSetA mb m, ZooA p z, Box sb 33 #[.slice A1 (gensL z.ls).length c1, .slice A2 z.rows.length c2, .slice A3 z.B.length c3], RowsA (.slice A2 z.rows.length c2) z.rows, RowB (.slice A3 z.B.length c3) z.B] w') (fun i _ => z.rows.length - (intOf i).toNat)
  case atStart => exact ⟨0, [], Nat.zero_le _, rfl, SetM.nil, HI4.out⟩
  case round =>
    clear HI4 s1 s2
    obtain ⟨k, m, hk, rfl, hset, hI⟩ := hrel
    by_cases hlt : k < z.rows.length
    · have hki : (k : Int) < z.rows.length := by omega
      obtain ⟨A', c', e0, hcc, _, hrow⟩ := hI.fourth.rowsAt
      injection e0 with e1 e2 e3
      subst e1; subst e3
      obtain ⟨g, rfl, q1⟩ := hrow k hlt
      have hget : z.rows.getD k zeroRow = z.rows[k] := by rw [List.getD_eq_getElem?_getD, List.getElem?_eq_getElem hlt]; rfl
      rw [hget] at q1
      have HSU := Lib.hid (handS_succ hlt)
      have hkc : (z.rows.length : Int) ≤ c2 := by omega
      have HSET := Lib.hid hset
      have HI := Lib.hid hI
      clear hrow e2 hI hset hget
      generalize z.rows[k] = r at *
      have hre := rowE_len r
      have hrh := rowE_head r
      go_upto_region 11 with (fail)
      refine wp_abs (In (fun _ => False) w [Box wr.heap.size 49 (ints (rowE r)), HSetA mb m, ZooA p z, Box sb 33 #[.slice A1 (gensL z.ls).length c1, .slice (some ⟨g, 0, none⟩) z.rows.length c2, .slice A3 z.B.length c3], RowsA (.slice (some ⟨g, 0, none⟩) z.rows.length c2) z.rows, RowB (.slice A3 z.B.length c3) z.B]) (HI.out.struct 49 [0, 0, 0, 0, 0, 0, 0, 0, 0, 0, 0] (rowE r) hre) ?_
      generalize wr.heap.size = rb
      intro w5 hI5
      have q2 : row? w5 rb 0 2 = some (ints [r.h.1, r.h.2]) := by rw [hI5.blk.row_ints 0 2 (by omega), List.drop_zero, hrh]
      have HI5 := Lib.hid hI5.swap
      clear hI5 HI q1 hre hrh
      generalize hrH : r.h = rh at *
      obtain ⟨h1, h2⟩ := rh
      go_wp2_with (at_mapUpdate; go_loud (refine wpList_store keyHd rfl _ _ _ 47 4 rfl Tryz.underlying47 mb m rfl HI5.out.mapAt (h1, h2) rfl trivial true rfl ?_))
      intro w6 g1 g2 g3
      have HI6 := Lib.hid (In.mapped HI5.out g1 g2).swap.drop
      have HSET2 := Lib.hid (HSET.out.put (h1, h2))
      rw [← HSU.out] at HSET2
      clear g1 g2 g3 HI5 q2
      go_wp2_with fail
      go_roundw
      case rel => exact ⟨k + 1, _, by omega, by go_num, HSET2.out, HI6.out⟩
      case measure => simp [intOf]; omega
    · have : k = z.rows.length := by omega
      subst this
      have HSET := Lib.hid hset
      obtain ⟨s1, s2⟩ := HFS.out hI
      have HI := Lib.hid hI
      clear hI hset
      have hcb3 : z.B.length ≤ c3 := by
        obtain ⟨A', c', e0, h1, _, _⟩ := rowB_at (HI.out.nth 4 (by simp)).rowAt
        injection e0 with e1 e2 e3
        omega
      have hcr2 : z.rows.length ≤ c2 := by
        obtain ⟨A', c', e0, h1, _, _⟩ := HI.out.fourth.rowsAt
        injection e0 with e1 e2 e3
        omega
      go_wp2_with fail
      -- the bonds are of living ones
      go_loopw [44] (fun i w' => ∃ j : Nat, j ≤ z.B.length ∧ i = .int .i64 j ∧ In (fun _ => False) w [HSetA mb m, ZooA p z, Box sb 33 #[.slice A1 (gensL z.ls).length c1, .slice A2 z.rows.length c2, .slice A3 z.B.length c3], RowsA (.slice A2 z.rows.length c2) z.rows, RowB (.slice A3 z.B.length c3) z.B] w') (fun i _ => z.B.length - (intOf i).toNat)
      case atStart => exact ⟨0, Nat.zero_le _, rfl, HI.out⟩
      case round =>
        clear HI s1 s2
        obtain ⟨j, hj, rfl, hI⟩ := hrel
        by_cases hjt : j < z.B.length
        ·
          have hji : (j : Int) < z.B.length := by omega
          obtain ⟨A', c', e0, _, _, hrow⟩ := rowB_at (hI.nth 4 (by simp)).rowAt
          injection e0 with e1 e2 e3
          subst e1; subst e3
          obtain ⟨g, rfl, q1⟩ := hrow j hjt
          have hkc : (z.B.length : Int) ≤ c3 := by omega
          have hlv := HOK.out.lv z.B[j] (List.getElem_mem hjt)
          have HC : Hid (z.B[j].1 ∈ handS z.rows z.rows.length ∧ z.B[j].2 ∈ handS z.rows z.rows.length) := ⟨handS_all.2 ((live_row HOK.out).1 hlv.1), handS_all.2 ((live_row HOK.out).1 hlv.2)⟩
          have HI := Lib.hid hI
          clear hrow e2 hI hlv
          generalize z.B[j] = b at *
          obtain ⟨⟨x1, x2⟩, ⟨y1, y2⟩⟩ := b
          go_upto_region 16 with (fail)
          refine wp_abs (In (fun _ => False) w [Box wr.heap.size 51 (ints [x1, x2, y1, y2]), HSetA mb m, ZooA p z, Box sb 33 #[.slice A1 (gensL z.ls).length c1, .slice A2 z.rows.length c2, .slice (some ⟨g, 0, none⟩) z.B.length c3], RowsA (.slice A2 z.rows.length c2) z.rows, RowB (.slice (some ⟨g, 0, none⟩) z.B.length c3) z.B]) (HI.out.struct 51 [0, 0, 0, 0] [x1, x2, y1, y2] rfl) ?_
          generalize wr.heap.size = bb
          intro w5 hI5
          have q2 : row? w5 bb 0 2 = some #[.int .i64 x1, .int .i64 x2] := hI5.blk.row_ints 0 2 (by simp)
          have q3 : row? w5 bb 2 2 = some #[.int .i64 y1, .int .i64 y2] := hI5.blk.row_ints 2 2 (by simp)
          have hl1 := setLook hI5.swap.mapAt HSET.out x1 x2 true (decide_eq_true HC.out.1)
          have hl2 := setLook hI5.swap.mapAt HSET.out y1 y2 true (decide_eq_true HC.out.2)
          have HI5 := Lib.hid hI5.drop
          clear hI5 HI q1 HC
          go_wp2_with fail
          clear q2 q3 hl1 hl2
          go_roundw
          case rel => exact ⟨j + 1, by omega, by go_num, HI5.out⟩
          case measure => simp [intOf]; omega
        · have : j = z.B.length := by omega
          subst this
          obtain ⟨s1, s2⟩ := HFS.out hI
          by_cases h0 : z.rows.length = 0
          · have h0i : (z.rows.length : Int) = 0 := by omega
            have HI := Lib.hid hI
            clear hI
            go_wp2_with fail
            go_ret
            exact ⟨rfl, HI.out.below0⟩
          · have h0i : ¬ (z.rows.length : Int) = 0 := by omega
            have hkk : ∃ i : Nat, x % (z.rows.length : Int) = (i : Int) ∧ i < z.rows.length := by
              have h1 := Int.emod_nonneg x (b := (z.rows.length : Int)) (by omega)
              have h2 := Int.emod_lt_of_pos x (b := (z.rows.length : Int)) (by omega)
              exact ⟨(x % (z.rows.length : Int)).toNat, by omega, by omega⟩
            obtain ⟨i, hii, hil⟩ := hkk
            have hrm := Lib.hid (fun W => rest_any x (z.rows.length : Int) W (by omega) (by omega))
            rw [hii] at hrm
            obtain ⟨A', c', e0, _, _, hrow⟩ := hI.fourth.rowsAt
            injection e0 with e1 e2 e3
            subst e1; subst e3
            obtain ⟨g, rfl, q1⟩ := hrow i hil
            have hget : z.rows.getD i zeroRow = z.rows[i] := by rw [List.getD_eq_getElem?_getD, List.getElem?_eq_getElem hil]; rfl
            rw [hget] at q1
            have q2 := row_take (m := 2) q1 (by decide) (rowE_len _)
            rw [rowE_head] at q2
            have HLV : Hid (z.live z.rows[i].h = true) := (live_row HOK.out).2 (List.mem_map.2 ⟨_, List.getElem_mem hil, rfl⟩)
            have hi0 : (0 : Int) ≤ (i : Int) := by omega
            have hi1 : (i : Int) < z.rows.length := by omega
            have hi2 : (z.rows.length : Int) ≤ c2 := by omega
            have HBN : Hid (sb < wr.heap.size ∧ g < wr.heap.size) := ⟨hI.third.blk.lt, row_lt q1⟩
            have HI := Lib.hid hI
            clear hI hrow e2 hii hget q1
            generalize z.rows[i].h = h at *
            obtain ⟨h1, h2⟩ := h
            go_upto_region 21 with (fail)
            go_region_held3 (fun W => W.cell? ⟨sb, 1, none⟩ = some (.slice (some ⟨g, 0, none⟩) z.rows.length c2) ∧ row? W g (i * 11) 2 = some (ints [h1, h2]))
              (refine ⟨?_, ?_⟩ <;> (first | assumption | (refine cell_new_alloc _ ?_; assumption) | (refine row_alloc _ ?_; assumption) | (refine cell_far (by have := HBN.out; omega) ?_; assumption) | (refine row_far (by have := HBN.out; omega) ?_; assumption) | (have hx := ‹World.cell? _ _ = _ ∧ row? _ _ _ _ = _›; have hn := HBN.out; rw [← putRow_drew]; first | exact cell_far (by omega) hx.1 | exact row_far (by omega) hx.2)))
              (first
                | (go_at_call 15; refine (hrm.out _).mono ?_; rintro e w9 ⟨rfl, rfl⟩))
            all_goals
              go_upto_region 22 with (fail)
              refine wp_abs (In (fun _ => False) w [Box wr.heap.size 41 (ints [h1, h2]), HSetA mb m, ZooA p z, Box sb 33 #[.slice A1 (gensL z.ls).length c1, .slice (some ⟨g, 0, none⟩) z.rows.length c2, .slice A3 z.B.length c3], RowsA (.slice (some ⟨g, 0, none⟩) z.rows.length c2) z.rows, RowB (.slice A3 z.B.length c3) z.B]) (HI.out.drew.struct 41 [0, 0] [h1, h2] rfl) ?_
              generalize wr.heap.size = hb
              clear HI HBN hrm
              intro w5 hI5
              have q2 : row? w5 hb 0 2 = some #[.int .i64 h1, .int .i64 h2] := hI5.blk.row_all rfl
              have HI5 : Hid (In (fun _ => False) w [HSetA w5.heap.size [], Box hb 41 (ints [h1, h2]), HSetA mb m, ZooA p z, Box sb 33 #[.slice A1 (gensL z.ls).length c1, .slice (some ⟨g, 0, none⟩) z.rows.length c2, .slice A3 z.B.length c3], RowsA (.slice (some ⟨g, 0, none⟩) z.rows.length c2) z.rows, RowB (.slice A3 z.B.length c3) z.B] (w5.alloc (.map #[] 0))) := hI5.newMap hdV Value.bool (fun _ => True)
              have q3 : row? (w5.alloc (.map #[] 0)) hb 0 2 = some #[.int .i64 h1, .int .i64 h2] := row_alloc _ q2
              have hmm := @run_makeMap Tryz.prog
              clear hI5
              go_wp2_with (refine wpList_insert keyHd rfl _ _ _ 47 4 rfl Tryz.underlying47 w5.heap.size [] rfl HI5.out.mapAt (h1, h2) rfl trivial true rfl ?_)
              intro w6 g1 g2 g3
              have hI6 : In (fun _ => False) w [HSetA w5.heap.size (mput [] (h1, h2) true), ZooA p z, Box sb 33 #[.slice A1 (gensL z.ls).length c1, .slice (some ⟨g, 0, none⟩) z.rows.length c2, .slice A3 z.B.length c3], RowsA (.slice (some ⟨g, 0, none⟩) z.rows.length c2) z.rows, RowB (.slice A3 z.B.length c3) z.B, Box hb 41 (ints [h1, h2])] w6 := (((In.mapped HI5.out g1 g2).reorder 7 [2, 0, 3, 4, 5, 6, 1] rfl (by simp)).drop)
              have HS0 : Hid (SetM (mput [] (h1, h2) true) (roundsG z.B (h1, h2) 0)) := SetM.nil.put (h1, h2)
              have HFS2 : Hid (∀ {W : World} {X : Assn} {L : List Assn}, In (fun _ => False) w (X :: ZooA p z :: Box sb 33 #[.slice A1 (gensL z.ls).length c1, .slice (some ⟨g, 0, none⟩) z.rows.length c2, .slice A3 z.B.length c3] :: L) W → W.cell? ⟨sb, 1, none⟩ = some (.slice (some ⟨g, 0, none⟩) z.rows.length c2) ∧ W.cell? ⟨sb, 2, none⟩ = some (.slice A3 z.B.length c3)) := fun h => ⟨h.third.blk.cell 1, h.third.blk.cell 2⟩
              have s2 := (HFS2.out hI6).2
              generalize w5.heap.size = gb at *
              generalize mput [] (h1, h2) true = m0 at *
              have HI6 := Lib.hid hI6
              clear g1 g2 g3 q2 q3 HI5 hmm hI6
              go_wp2_with fail
              go_loopw [81] (fun v w' => ∃ (r : Nat) (m : List (Hd × Bool)), r ≤ z.B.length ∧ v = .int .i64 r ∧ SetM m (roundsG z.B (h1, h2) r) ∧ In (fun _ => False) w [HSetA gb m, ZooA p z, Box sb 33 #[.slice A1 (gensL z.ls).length c1, .slice (some ⟨g, 0, none⟩) z.rows.length c2, .slice A3 z.B.length c3], RowsA (.slice (some ⟨g, 0, none⟩) z.rows.length c2) z.rows, RowB (.slice A3 z.B.length c3) z.B, Box hb 41 (ints [h1, h2])] w') (fun v _ => z.B.length - (intOf v).toNat)
              case atStart => exact ⟨0, m0, Nat.zero_le _, rfl, HS0.out, HI6.out⟩
              case round =>
                clear HI6 s2 HS0
                obtain ⟨r, m2, hr, rfl, hset2, hI⟩ := hrel
                by_cases hrt : r < z.B.length
                · have hri : (r : Int) < z.B.length := by omega
                  obtain ⟨s1, s2⟩ := HFS2.out hI
                  have HSET2 := Lib.hid hset2
                  have HI := Lib.hid hI
                  clear hI hset2
                  go_wp2_with fail
                  go_loopw [86] (fun v w' => ∃ (j : Nat) (m : List (Hd × Bool)), j ≤ z.B.length ∧ v = .int .i64 j ∧ SetM m ((z.B.take j).foldl stepG (roundsG z.B (h1, h2) r)) ∧ In (fun _ => False) w [HSetA gb m, ZooA p z, Box sb 33 #[.slice A1 (gensL z.ls).length c1, .slice (some ⟨g, 0, none⟩) z.rows.length c2, .slice A3 z.B.length c3], RowsA (.slice (some ⟨g, 0, none⟩) z.rows.length c2) z.rows, RowB (.slice A3 z.B.length c3) z.B, Box hb 41 (ints [h1, h2])] w') (fun v _ => z.B.length - (intOf v).toNat)
                  case atStart => exact ⟨0, m2, Nat.zero_le _, rfl, HSET2.out, HI.out⟩
                  case round =>
                    clear HI s1 s2 HSET2
                    obtain ⟨j, m3, hj, rfl, hset3, hI⟩ := hrel
                    by_cases hjt : j < z.B.length
                    · have hji : (j : Int) < z.B.length := by omega
                      obtain ⟨A', c', e0, _, _, hrow⟩ := rowB_at (hI.nth 4 (by simp)).rowAt
                      injection e0 with e1 e2 e3
                      subst e1; subst e3
                      obtain ⟨gg, rfl, q1⟩ := hrow j hjt
                      have hkc : (z.B.length : Int) ≤ c3 := by omega
                      have HSU := Lib.hid (foldG_succ z.B (roundsG z.B (h1, h2) r) hjt)
                      have HSET3 := Lib.hid hset3
                      have HI := Lib.hid hI
                      clear hrow e2 hI hset3
                      generalize z.B[j] = b at *
                      obtain ⟨⟨x1, x2⟩, ⟨y1, y2⟩⟩ := b
                      go_upto_region 28 with (fail)
                      refine wp_abs (In (fun _ => False) w [Box wr.heap.size 51 (ints [x1, x2, y1, y2]), HSetA gb m3, ZooA p z, Box sb 33 #[.slice A1 (gensL z.ls).length c1, .slice (some ⟨g, 0, none⟩) z.rows.length c2, .slice (some ⟨gg, 0, none⟩) z.B.length c3], RowsA (.slice (some ⟨g, 0, none⟩) z.rows.length c2) z.rows, RowB (.slice (some ⟨gg, 0, none⟩) z.B.length c3) z.B, Box hb 41 (ints [h1, h2])]) (HI.out.struct 51 [0, 0, 0, 0] [x1, x2, y1, y2] rfl) ?_
                      generalize wr.heap.size = bb
                      intro w7 hI7
                      have q2 : row? w7 bb 0 2 = some #[.int .i64 x1, .int .i64 x2] := hI7.blk.row_ints 0 2 (by simp)
                      have q3 : row? w7 bb 2 2 = some #[.int .i64 y1, .int .i64 y2] := hI7.blk.row_ints 2 2 (by simp)
                      have hma := hI7.swap.mapAt
                      have HI7 := Lib.hid hI7.swap
                      clear hI7 HI q1
                      by_cases hp : (y1, y2) ∈ (z.B.take j).foldl stepG (roundsG z.B (h1, h2) r)
                      · have hl := setLook hma HSET3.out y1 y2 true (decide_eq_true hp)
                        have HST : Hid (SetM (mput m3 (x1, x2) true) ((z.B.take (j + 1)).foldl stepG (roundsG z.B (h1, h2) r))) := by
                          have h9 := HSET3.out.put (x1, x2)
                          unfold Hid
                          rw [HSU.out, stepG_in (b := ((x1, x2), (y1, y2))) hp]
                          exact h9
                        clear hp hma HSU HSET3
                        go_wp2_with (at_mapUpdate; go_loud (refine wpList_store keyHd rfl _ _ _ 47 4 rfl Tryz.underlying47 gb m3 rfl HI7.out.mapAt (x1, x2) rfl trivial true rfl ?_))
                        intro w8 g1 g2 g3
                        have HI8 := Lib.hid (In.mapped HI7.out g1 g2).swap.drop
                        clear g1 g2 g3 HI7 q2 q3 hl
                        go_wp2_with fail
                        go_roundw
                        case rel => exact ⟨j + 1, _, by omega, by go_num, HST.out, HI8.out⟩
                        case measure => simp [intOf]; omega
                      · have hl := setLook hma HSET3.out y1 y2 false (decide_eq_false hp)
                        have HST : Hid (SetM m3 ((z.B.take (j + 1)).foldl stepG (roundsG z.B (h1, h2) r))) := by
                          unfold Hid
                          rw [HSU.out, stepG_out (b := ((x1, x2), (y1, y2))) hp]
                          exact HSET3.out
                        clear hp hma HSU HSET3
                        go_wp2_with fail
                        clear q2 q3 hl
                        go_roundw
                        case rel => exact ⟨j + 1, _, by omega, by go_num, HST.out, HI7.out.swap.drop⟩
                        case measure => simp [intOf]; omega
                    · have : j = z.B.length := by omega
                      subst this
                      rw [List.take_length] at hset3
                      have HST : Hid (SetM m3 (roundsG z.B (h1, h2) (r + 1))) := hset3
                      have HI := Lib.hid hI
                      clear hI hset3
                      go_wp2_with fail
                      go_roundw
                      case rel => exact ⟨r + 1, m3, by omega, by go_num, HST.out, HI.out⟩
                      case measure => simp [intOf]; omega
                · have : r = z.B.length := by omega
                  subst this
                  have HSET2 := Lib.hid hset2
                  have q2 : row? wr hb 0 2 = some #[.int .i64 h1, .int .i64 h2] := (hI.nth 5 (by simp)).blk.row_all rfl
                  have HZ : Hid (In (fun _ => False) w [ZooA p z, HSetA gb m2, Box sb 33 #[.slice A1 (gensL z.ls).length c1, .slice (some ⟨g, 0, none⟩) z.rows.length c2, .slice A3 z.B.length c3], RowsA (.slice (some ⟨g, 0, none⟩) z.rows.length c2) z.rows, RowB (.slice A3 z.B.length c3) z.B, Box hb 41 (ints [h1, h2])] wr) := hI.swap
                  have hbld : ∀ W, (Instr.build 43 #[(0, .int .i64 2), (2, .agg #[.int .i64 h1, .int .i64 h2])]).run Tryz.prog W = .ok (.agg (ints (bOp (h1, h2)).list)) W := fun W => by kernel_rfl
                  have HKR := Lib.hid (killZ_rows HOK.out HLV.out)
                  have HZK := Lib.hid (HOK.out.kill (h1, h2))
                  have HDO : Hid (doZ z (bOp (h1, h2)) = ((killZ z (h1, h2)).1, (0, 0), (killZ z (h1, h2)).2)) := doZ_2 z (bOp (h1, h2)) rfl
                  clear hI hset2
                  go_wp2_with fail
                  refine (zdo_in HZ.out HOK.out (bOp (h1, h2)) rfl).mono ?_
                  rintro e w5 ⟨rfl, hI5⟩
                  rw [HDO.out] at hI5 ⊢
                  simp only at hI5 ⊢
                  rw [HKR.out.2]
                  have HKR := Lib.hid HKR.out.1
                  generalize (killZ z (h1, h2)).1 = z2 at *
                  generalize roundsG z.B (h1, h2) z.B.length = S at *
                  clear HDO HLV hbld q2 HZ
                  go_upto_region 33 with (fail)
                  refine wp_abs (In (fun _ => False) w [HSetA gb m2, ZooA p z2, Box sb 33 #[.slice A1 (gensL z.ls).length c1, .slice (some ⟨g, 0, none⟩) z.rows.length c2, .slice A3 z.B.length c3], RowsA (.slice (some ⟨g, 0, none⟩) z.rows.length c2) z.rows]) (((hI5.struct 41 [0, 0] [0, 0] rfl).reorder 7 [0, 5, 6, 2, 1, 3, 4] rfl (by simp)).drop.drop.drop) ?_
                  clear hI5
                  intro w6 hI6
                  have s1 : w6.cell? ⟨sb, 1, none⟩ = some (.slice (some ⟨g, 0, none⟩) z.rows.length c2) := hI6.third.blk.cell 1
                  have HI6 : Hid (In (fun _ => False) w [RowsA (.slice none 0 0) [], HSetA gb m2, ZooA p z2, Box sb 33 #[.slice A1 (gensL z.ls).length c1, .slice (some ⟨g, 0, none⟩) z.rows.length c2, .slice A3 z.B.length c3], RowsA (.slice (some ⟨g, 0, none⟩) z.rows.length c2) z.rows] w6) := hI6.nilRow 49 11
                  clear hI6
                  obtain ⟨i0, hi0', hz0, hz1, hz2⟩ := info_parts row_parts
                  go_wp2_with fail
                  go_loopw [111, 18] (fun v u w' => ∃ k : Nat, k ≤ z.rows.length ∧ v = .int .i64 k ∧ In (fun _ => False) w [RowsA u ((z.rows.take k).filter fun r => !decide (r.h ∈ S)), HSetA gb m2, ZooA p z2, Box sb 33 #[.slice A1 (gensL z.ls).length c1, .slice (some ⟨g, 0, none⟩) z.rows.length c2, .slice A3 z.B.length c3], RowsA (.slice (some ⟨g, 0, none⟩) z.rows.length c2) z.rows] w') (fun v _ _ => z.rows.length - (intOf v).toNat)
                  case atStart => exact ⟨0, Nat.zero_le _, rfl, HI6.out⟩
                  case round =>
                    clear HI6 s1
                    obtain ⟨k, hk, rfl, hI⟩ := hrel
                    by_cases hlt : k < z.rows.length
                    · have hki : (k : Int) < z.rows.length := by omega
                      obtain ⟨A', c', e0, _, _, hrow⟩ := (hI.nth 4 (by simp)).rowsAt
                      injection e0 with e1 e2 e3
                      subst e3
                      obtain ⟨g', e4, q1⟩ := hrow k hlt
                      rw [e4] at e1
                      injection e1 with e1
                      injection e1 with e1
                      subst e1
                      have hget : z.rows.getD k zeroRow = z.rows[k] := by rw [List.getD_eq_getElem?_getD, List.getElem?_eq_getElem hlt]; rfl
                      rw [hget] at q1
                      have HFI := Lib.hid (filter_succ (fun r : RowM => !decide (r.h ∈ S)) z.rows hlt)
                      have hfl : ((z.rows.take k).filter fun r => !decide (r.h ∈ S)).length ≤ 60 := by
                        have h1 := List.length_filter_le (fun r : RowM => !decide (r.h ∈ S)) (z.rows.take k)
                        have h2 : (z.rows.take k).length ≤ z.rows.length := by rw [List.length_take]; omega
                        omega
                      have HI := Lib.hid hI
                      clear hrow e2 e4 hI hget
                      generalize z.rows[k] = r at *
                      generalize (z.rows.take k).filter (fun r => !decide (r.h ∈ S)) = cur at *
                      have hre := rowE_len r
                      have hrh := rowE_head r
                      go_upto_region 39 with (fail)
                      refine wp_abs (In (fun _ => False) w [Box wr.heap.size 49 (ints (rowE r)), RowsA u18 cur, HSetA gb m2, ZooA p z2, Box sb 33 #[.slice A1 (gensL z.ls).length c1, .slice (some ⟨g, 0, none⟩) z.rows.length c2, .slice A3 z.B.length c3], RowsA (.slice (some ⟨g, 0, none⟩) z.rows.length c2) z.rows]) (HI.out.struct 49 [0, 0, 0, 0, 0, 0, 0, 0, 0, 0, 0] (rowE r) hre) ?_
                      generalize wr.heap.size = rb
                      intro w7 hI7
                      have q11 : row? w7 rb 0 11 = some (ints (rowE r)) := hI7.blk.row_all hre
                      have q2 : row? w7 rb 0 2 = some #[.int .i64 r.h.1, .int .i64 r.h.2] := by rw [hI7.blk.row_ints 0 2 (by omega), List.drop_zero, hrh]; rfl
                      have hma := hI7.third.mapAt
                      have HRC : Hid ((rowE r).map (Value.int .i64) = rowC r) := rfl
                      have HI7 := Lib.hid hI7.drop
                      clear hI7 HI q1 hrh
                      generalize hrH : r.h = rh at *
                      obtain ⟨r1, r2⟩ := rh
                      by_cases hp : (r1, r2) ∈ S
                      · have hl := setLook hma HSET2.out r1 r2 true (decide_eq_true hp)
                        have HF2 : Hid ((z.rows.take (k + 1)).filter (fun r => !decide (r.h ∈ S)) = cur) := by
                          unfold Hid
                          rw [HFI.out]
                          simp [hp]
                        clear hp hma HFI
                        go_wp2_with fail
                        clear q2 q11 hl hre
                        go_roundw
                        case rel => exact ⟨k + 1, by omega, by go_num, by rw [HF2.out]; exact HI7.out⟩
                        case measure => simp [intOf]; omega
                      · have hl := setLook hma HSET2.out r1 r2 false (decide_eq_false hp)
                        have HF2 : Hid ((z.rows.take (k + 1)).filter (fun r => !decide (r.h ∈ S)) = cur ++ [r]) := by
                          unfold Hid
                          rw [HFI.out]
                          simp [hp]
                        clear hp hma HFI
                        have HOW := Lib.hid HI7.out.rowAt
                        have hone : ∀ u ∈ (rowE r).map (Value.int .i64), u.oneCell' = true := by
                          intro u hu; obtain ⟨y, _, rfl⟩ := List.mem_map.1 hu; rfl
                        have HONE := Lib.hid hone
                        have HX11 := Lib.hid hre
                        clear hone
                        generalize rowE r = xs at *
                        go_wp2_with (at_builtin; go_loud (refine wpList_append1_at rfl _ _ _ rfl 0 49 i0 _ 11 88 Tryz.underlying30 hi0' hz0 hz1 hz2 rfl (by decide) _ cur.length _ rfl HOW.out (xs.map (Value.int .i64)) rfl (by rw [List.length_map]; exact HX11.out) HONE.out (by unfold maxLen; omega) (by omega) (Nat.zero_le _) ?_))
                        intro v' w10 hown7 hg7 hat7
                        have hI10 := In.append1 HI7.out hown7 hg7 hat7
                        have hI11 : In (fun _ => False) w [RowsA v' (cur ++ [r]), HSetA gb m2, ZooA p z2, Box sb 33 #[.slice A1 (gensL z.ls).length c1, .slice (some ⟨g, 0, none⟩) z.rows.length c2, .slice A3 z.B.length c3], RowsA (.slice (some ⟨g, 0, none⟩) z.rows.length c2) z.rows] w10 := by
                          unfold RowsA
                          rw [List.length_append, List.flatMap_append, List.flatMap_cons, List.flatMap_nil, List.append_nil, ← HRC.out]
                          exact hI10
                        have HI11 := Lib.hid hI11
                        clear hown7 hg7 hat7 hI10 hI11 HI7 HOW q2 q11 hl hre
                        go_wp2_with fail
                        go_roundw
                        case rel => exact ⟨k + 1, by omega, by go_num, by rw [HF2.out]; exact HI11.out⟩
                        case measure => simp [intOf]; omega
                    · have : k = z.rows.length := by omega
                      subst this
                      rw [List.take_length, ← HKR.out] at hI
                      have HI : Hid (In (fun _ => False) w [ZooA p z2, RowsA u18 z2.rows] wr) := (hI.reorder 5 [1, 3, 4, 2, 0] rfl (by simp)).drop.drop.drop
                      clear hI
                      go_wp2_with fail
                      refine (zstateS_in HI.out HZK.out).mono ?_
                      rintro e w7 ⟨D1, e1, D2, e2, D3, e3, rfl, hI7⟩
                      have hfld : ∀ W, (Instr.field 33 (.agg #[.slice D1 (gensL z2.ls).length e1, .slice D2 z2.rows.length e2, .slice D3 z2.B.length e3]) 1).run Tryz.prog W = .ok (.slice D2 z2.rows.length e2) W := fun W => by kernel_rfl
                      have HI7 := Lib.hid hI7
                      have HEQ := Lib.hid (eqR_same hI7.swap (hI7.nth 4 (by simp)) rfl)
                      clear hI7 HI
                      go_wp2_with fail
                      refine HEQ.out.mono ?_
                      rintro e w8 ⟨rfl, hb8⟩
                      have HB := Lib.hid (HI7.out.below hb8).below0
                      clear hb8 HI7 HEQ
                      go_wp2_with fail
                      go_ret
                      exact ⟨rfl, HB.out⟩

end Go.Proofs.YtjggdpnamakoeaaGreat
