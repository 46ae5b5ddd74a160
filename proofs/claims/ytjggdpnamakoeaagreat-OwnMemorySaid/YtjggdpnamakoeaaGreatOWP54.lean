/-
  Several texts in one (merged by a program of mine): ZooOver, OwnMemory.
-/
import Derived.Test.YtjggdpnamakoeaaGreatOWP53
import Derived.Laws.AppendOwnNone
set_option linter.unusedVariables false
set_option linter.unusedSimpArgs false
set_option linter.unusedSectionVars false
/-
  Slices of one's own that are written over; R.Copy of changes.
-/
namespace Go.Proofs.YtjggdpnamakoeaaGreat
open Go.RowKit

section
variable {G : Nat → Prop} {w0 w : World} {l : List Assn} {E : TypeId} {size n c g k : Nat} {xs : List Value}
theorem own_curO (h : w.ownsRow 0 E size (.slice (some ⟨g, 0, none⟩) n c) n xs) : ∃ cur, w.heap[g]? = some (.cells cur E (0, 0)) ∧ n ≤ c ∧ c ≤ maxLen ∧ cur.size = c * size := by
  obtain ⟨h1, h2⟩ := h
  rcases h2 with ⟨e, _⟩ | ⟨g', cap, cur, e, _, hg, h3, h4, h5, _⟩
  · cases e
  · injection e with e1 e2 e3
    injection e1 with e1
    injection e1 with e1
    subst e1; subst e3
    exact ⟨cur, hg, h3, h4, h5⟩
theorem own_fitsO (h : w.ownsRow 0 E size (.slice (some ⟨g, 0, none⟩) n c) n xs) (hk : k < n) : fits w g (k * size) size = true := by
  obtain ⟨cur, hg, h3, _, h5⟩ := own_curO h
  unfold fits
  rw [hg]
  have h6 : (k + 1) * size ≤ c * size := Nat.mul_le_mul_right size (by omega)
  rw [Nat.succ_mul] at h6
  simp only [decide_eq_true_eq]
  omega
theorem own_overO {w' : World} {cur' : Array Value} (h : w.ownsRow 0 E size (.slice (some ⟨g, 0, none⟩) n c) n xs) (hg : w'.heap[g]? = some (.cells cur' E (0, 0))) (hs : cur'.size = c * size) : w'.ownsRow 0 E size (.slice (some ⟨g, 0, none⟩) n c) n (cur'.toList.take (n * size)) := by
  obtain ⟨cur, _, h3, h4, _⟩ := own_curO h
  have h6 : n * size ≤ c * size := Nat.mul_le_mul_right size h3
  exact ⟨by rw [List.length_take]; simp; omega, Or.inr ⟨g, c, cur', rfl, Nat.zero_le _, hg, h3, h4, hs, rfl⟩⟩
theorem In.over (h : In G w0 (RowA E size (.slice (some ⟨g, 0, none⟩) n c) n xs :: l) w) (hk : k < n) (zs : List Int) (hz : zs.length = size) : ∃ xs', In G w0 (RowA E size (.slice (some ⟨g, 0, none⟩) n c) n xs' :: l) (putRow w g (k * size) zs) := by
  obtain ⟨F1, ⟨hA, hF⟩, _, hback⟩ := h.open_
  obtain ⟨cur, hg, h3, h4, h5⟩ := own_curO hA
  have h6 : (k + 1) * size ≤ c * size := Nat.mul_le_mul_right size (by omega)
  rw [Nat.succ_mul] at h6
  have hg' : (putRow w g (k * size) zs).heap[g]? = some (.cells (cur.toList.take (k * size) ++ zs.map (Value.int .i64) ++ cur.toList.drop (k * size + zs.length)).toArray E (0, 0)) := by
    simp [putRow, Array.getElem?_modify, hg]
  have ho := own_overO hA hg' (by simp; omega)
  exact ⟨_, hback (A' := RowA E size (.slice (some ⟨g, 0, none⟩) n c) n _) ⟨ho, fun q hq => Or.inl (hF q hq)⟩ ((Only.putRow w g _ zs).mono fun q _ e => by rw [e]; exact hF g rfl)⟩
theorem In.over1 (h : In G w0 (RowA E 1 (.slice (some ⟨g, 0, none⟩) n c) n xs :: l) w) (hk : k < n) (v : Value) : ∃ xs', In G w0 (RowA E 1 (.slice (some ⟨g, 0, none⟩) n c) n xs' :: l) (w.setCell ⟨g, k, none⟩ v) := by
  obtain ⟨F1, ⟨hA, hF⟩, _, hback⟩ := h.open_
  obtain ⟨cur, hg, h3, h4, h5⟩ := own_curO hA
  have hg' : (w.setCell ⟨g, k, none⟩ v).heap[g]? = some (.cells (cur.setIfInBounds k v) E (0, 0)) := by
    simp [World.setCell, Array.getElem?_modify, hg]
  have ho := own_overO hA hg' (by simp; omega)
  exact ⟨_, hback (A' := RowA E 1 (.slice (some ⟨g, 0, none⟩) n c) n _) ⟨ho, fun q hq => Or.inl (hF q hq)⟩ (Only.refl.setCell (Or.inl (hF g rfl)) _ _)⟩
theorem own_cellO (h : w.ownsRow 0 E 1 (.slice (some ⟨g, 0, none⟩) n c) n xs) (hk : k < n) : ∃ v, w.cell? ⟨g, k, none⟩ = some v ∧ w.frozen? ⟨g, k, none⟩ = false := by
  obtain ⟨cur, hg, h3, h4, h5⟩ := own_curO h
  have hb : Blk w g E cur := hg
  have hk' : k < cur.size := by omega
  refine ⟨cur[k], ?_, hb.frozen k⟩
  rw [cell_of_row w g k cur E (0, 0) hg, Array.getElem?_eq_getElem hk']
end
set_option maxRecDepth 100000 in
theorem rcopy_any (A : Option Addr) (n c : Nat) (xs : List Value) (w : World) (B : Nat) (h : Reads w B 20 A n xs) (h1 : ∀ u ∈ xs, u.oneCell' = true) (hA : (A = none ∧ n = 0 ∧ c = 0) ∨ ∃ ad, A = some ad) (hn : n ≤ 879609302195) :
    Calls Tryz.prog 21 #[.slice A n c] w fun e w' => ∃ v, e = .returned v ∧ w'.ownsRow w.heap.size 64 20 v n xs ∧ Below w.heap.size w w' := by
  have H := Lib.hid h
  have H1 := Lib.hid h1
  clear h h1
  obtain ⟨i0, hi0, hz0, hz1, hz2⟩ := info_parts cloneChange_parts
  rcases hA with ⟨rfl, rfl, rfl⟩ | ⟨ad, rfl⟩
  · have hx : Hid (xs = []) := by have := H.out.1; exact List.eq_nil_of_length_eq_zero (by omega)
    clear hn
    go_enter Tryz.func21, Tryz.ntmps21
    go_wp2_with (at_builtin; go_loud (refine wpList_append_own_none rfl _ _ _ rfl w.heap.size 64 i0 20 Tryz.underlying61 hi0 (.slice none 0 0) 0 [] rfl (World.ownsRow_nil _ _ _ _) rfl ?_))
    go_wp2_with fail
    go_ret
    exact ⟨_, rfl, by rw [hx.out]; exact World.ownsRow_nil _ _ _ _, Below.refl _ _⟩
  · have hcells : Hid (∀ j u, xs[j]? = some u → w.cell? (ad.add j) = some u) := by
      unfold Hid
      intro j u hu
      have hj := (List.getElem?_eq_some_iff.1 hu).1
      have hl := H.out.1
      obtain ⟨b', o', e, _, hc⟩ := H.out.2 (by rcases Nat.eq_zero_or_pos n with h | h; rw [h] at hl; omega; exact h)
      injection e with e
      subst e
      rw [Addr.add_lit]
      exact hc j u hu
    go_enter Tryz.func21, Tryz.ntmps21
    go_wp2_with (at_builtin; go_loud (refine wpList_append_own_at _ rfl _ _ _ rfl w.heap.size 64 i0 _ 20 160 Tryz.underlying61 hi0 hz0 hz1 hz2 rfl (by decide) (.slice none 0 0) 0 [] rfl ?_ ad n c xs rfl H.out.1 ?_ H1.out (by unfold maxLen; omega) (by omega) (by simp) ?_))
    case refine_1 => exact World.ownsRow_nil _ _ _ _
    case refine_2 => exact fun j u hu => hcells.out j u hu
    intro v' w' hown hg _ _
    have HB : Hid (Below w.heap.size w w') := (Below.refl w.heap.size w).grown hg (by simp) (fun k hk => by simp [Value.ownBlock] at hk)
    have HO := Lib.hid hown
    clear hown hg
    go_wp2_with fail
    go_ret
    exact ⟨_, rfl, HO.out, HB.out⟩

end Go.Proofs.YtjggdpnamakoeaaGreat

/-
  The walk of the law OwnMemory: arguments are not modified, and results share no memory with them.
-/
namespace Go.Proofs.YtjggdpnamakoeaaGreat
open Go.RowKit

set_option maxHeartbeats 8000000 in
set_option maxRecDepth 100000 in
theorem ownMemory_any (A A' : Option Addr) (c c' : Nat) (os : List OpM) (cs : List Chg) (w : World) (H : OpsIn w w.heap.size A os) (hlen : os.length ≤ 1099511627776) (hb8 : ∀ o ∈ os, o.b.v.length = 8)
    (hcs : ChgsIn w w.heap.size A' cs) (hok : ∀ o ∈ cs, ChgOk o) (hcl : cs.length ≤ 879609302195) (hA : (A' = none ∧ cs.length = 0 ∧ c' = 0) ∨ ∃ ad, A' = some ad) :
    Calls Tryz.prog 8 #[.slice A os.length c, .slice A' cs.length c'] w fun e w' => e = .returned (.bool true) ∧ Below w.heap.size w w' := by
  have HO : Hid (OpsAt (fun _ => False) w w.heap.size A os) := OpsAt.of_arg H
  have H8 := Lib.hid hb8
  have HOK := Lib.hid (doneZ_ok hb8)
  have HCA : Hid (ChgsArg w A' cs) := ⟨hcs, hok, by unfold maxLen; omega⟩
  have HA := Lib.hid hA
  clear H hb8 hcs hok hA
  go_enter Tryz.func8, Tryz.ntmps8
  go_wp2_with fail
  refine (kept_any w).mono ?_
  rintro e w1 ⟨rfl, hb1⟩
  have HI0 := Lib.hid ((In.nil w (fun _ => False)).below hb1)
  clear hb1
  go_wp2_with fail
  refine (differed_any w1).mono ?_
  rintro e w1' ⟨rfl, hb1⟩
  have HI1 := Lib.hid (HI0.out.below hb1)
  clear hb1 HI0
  go_wp2_with fail
  refine (zdone_in (c := c) HO.out hlen H8.out HI1.out).mono ?_
  rintro e w2 ⟨p, rfl, hI2⟩
  generalize doneZ os = z at *
  have HI2 := Lib.hid hI2
  clear hI2 HI1 HO H8
  have hrl : z.rows.length ≤ 60 := allW_len HOK.out.w
  have hbl : z.B.length ≤ 60 := HOK.out.len
  have hgl : (gensL z.ls).length ≤ 60 := by rw [gensL_len]; exact HOK.out.w.so.1
  go_wp2_with fail
  refine (zstateS_in HI2.out HOK.out).mono ?_
  rintro e w3 ⟨A1, c1, A2, c2, A3, c3, rfl, hI3⟩
  go_upto_region 7 with (fail)
  refine wp_abs (In (fun _ => False) w [ZooA p z, Box w3.heap.size 33 #[.slice A1 (gensL z.ls).length c1, .slice A2 z.rows.length c2, .slice A3 z.B.length c3], IntsA (.slice A1 (gensL z.ls).length c1) (gensL z.ls), RowsA (.slice A2 z.rows.length c2) z.rows, RowB (.slice A3 z.B.length c3) z.B]) ((hI3.newState _ _ _).reorder 5 [4, 0, 1, 2, 3] rfl (by simp)) ?_
  generalize w3.heap.size = sb
  clear hI3 HI2
  intro w4 hI4
  have HI4 := Lib.hid hI4
  clear hI4
  go_wp2_with fail
  refine (zstateS_in HI4.out HOK.out).mono ?_
  rintro e w5 ⟨B1, d1, B2, d2, B3, d3, rfl, hI5⟩
  generalize hL : [ZooA p z, Box sb 33 #[.slice A1 (gensL z.ls).length c1, .slice A2 z.rows.length c2, .slice A3 z.B.length c3], IntsA (.slice A1 (gensL z.ls).length c1) (gensL z.ls), RowsA (.slice A2 z.rows.length c2) z.rows, RowB (.slice A3 z.B.length c3) z.B] = L at *
  have HL := Lib.hid hL
  clear hL
  go_upto_region 8 with (fail)
  refine wp_abs (In (fun _ => False) w (Box w5.heap.size 33 #[.slice B1 (gensL z.ls).length d1, .slice B2 z.rows.length d2, .slice B3 z.B.length d3] :: RowA 49 11 (.slice B2 z.rows.length d2) z.rows.length (z.rows.flatMap rowC) :: RowA 3 1 (.slice B1 (gensL z.ls).length d1) (gensL z.ls).length ((gensL z.ls).map (Value.int .i64)) :: RowA 51 4 (.slice B3 z.B.length d3) z.B.length (z.B.flatMap bC) :: L)) ((hI5.newState _ _ _).reorder 4 [0, 2, 1, 3] rfl (by simp)) ?_
  generalize w5.heap.size = tb
  clear hI5 HI4
  intro w6 hI6
  generalize z.rows.flatMap rowC = ys0 at hI6
  generalize (gensL z.ls).map (Value.int .i64) = gs0 at hI6
  generalize z.B.flatMap bC = bs0 at hI6
  generalize z.rows.length = n1 at *
  generalize (gensL z.ls).length = n2 at *
  generalize z.B.length = n3 at *
  have s1 : w6.cell? ⟨tb, 1, none⟩ = some (.slice B2 n1 d2) := hI6.blk.cell 1
  have HI6 := Lib.hid hI6.swap
  clear hI6
  go_wp2_with fail
  go_loopw [31] (fun v w' => ∃ (k : Nat) (ys : List Value), k ≤ n1 ∧ v = .int .i64 k ∧ In (fun _ => False) w (RowA 49 11 (.slice B2 n1 d2) n1 ys :: Box tb 33 #[.slice B1 n2 d1, .slice B2 n1 d2, .slice B3 n3 d3] :: RowA 3 1 (.slice B1 n2 d1) n2 gs0 :: RowA 51 4 (.slice B3 n3 d3) n3 bs0 :: L) w') (fun v _ => n1 - (intOf v).toNat)
  case atStart => exact ⟨0, _, Nat.zero_le _, rfl, HI6.out⟩
  case round =>
    clear HI6 s1
    obtain ⟨k, ys, hk, rfl, hI⟩ := hrel
    have s1 : wr.cell? ⟨tb, 1, none⟩ = some (.slice B2 n1 d2) := hI.swap.blk.cell 1
    by_cases hlt : k < n1
    · have hki : (k : Int) < n1 := by omega
      obtain ⟨A'', c'', e0, hc1, hc2, hg⟩ := own_form hI.rowAt
      injection e0 with e1 e2 e3
      subst e1; subst e3
      obtain ⟨g, rfl⟩ := hg (by omega)
      have hkc : (n1 : Int) ≤ d2 := by omega
      have q1 := own_fitsO hI.rowAt hlt
      have q2 : True := trivial
      obtain ⟨ys2, hI2⟩ := hI.over hlt [0, 0, 0, 0, 0, 0, 0, 0, 0, 0, 0] rfl
      have HI2 := Lib.hid hI2
      clear hI hI2 e2 hg
      go_wp2_with fail
      clear q1 q2 s1
      go_roundw
      case rel => exact ⟨k + 1, ys2, by omega, by go_num, HI2.out⟩
      case measure => simp [intOf]; omega
    · have hki : ¬ (k : Int) < n1 := by omega
      have s1 : wr.cell? ⟨tb, 0, none⟩ = some (.slice B1 n2 d1) := hI.swap.blk.cell 0
      have hI6 : In (fun _ => False) w (RowA 3 1 (.slice B1 n2 d1) n2 gs0 :: Box tb 33 #[.slice B1 n2 d1, .slice B2 n1 d2, .slice B3 n3 d3] :: RowA 49 11 (.slice B2 n1 d2) n1 ys :: RowA 51 4 (.slice B3 n3 d3) n3 bs0 :: L) wr := hI.reorder 3 [2, 1, 0] rfl (by simp)
      have HI6 := Lib.hid hI6
      clear hI hI6
      generalize ys = ys1 at *
      go_wp2_with fail
      go_loopw [43] (fun v w' => ∃ (k : Nat) (ys : List Value), k ≤ n2 ∧ v = .int .i64 k ∧ In (fun _ => False) w (RowA 3 1 (.slice B1 n2 d1) n2 ys :: Box tb 33 #[.slice B1 n2 d1, .slice B2 n1 d2, .slice B3 n3 d3] :: RowA 49 11 (.slice B2 n1 d2) n1 ys1 :: RowA 51 4 (.slice B3 n3 d3) n3 bs0 :: L) w') (fun v _ => n2 - (intOf v).toNat)
      case atStart => exact ⟨0, _, Nat.zero_le _, rfl, HI6.out⟩
      case round =>
        clear HI6 s1
        obtain ⟨k, ys, hk, rfl, hI⟩ := hrel
        have s1 : wr.cell? ⟨tb, 0, none⟩ = some (.slice B1 n2 d1) := hI.swap.blk.cell 0
        by_cases hlt : k < n2
        · have hki : (k : Int) < n2 := by omega
          obtain ⟨A'', c'', e0, hc1, hc2, hg⟩ := own_form hI.rowAt
          injection e0 with e1 e2 e3
          subst e1; subst e3
          obtain ⟨g, rfl⟩ := hg (by omega)
          have hkc : (n2 : Int) ≤ d1 := by omega
          obtain ⟨v0, q1, q2⟩ := own_cellO hI.rowAt hlt
          obtain ⟨ys2, hI2⟩ := hI.over1 hlt (.int .i64 77)
          have HI2 := Lib.hid hI2
          clear hI hI2 e2 hg
          go_wp2_with fail
          clear q1 q2 s1
          go_roundw
          case rel => exact ⟨k + 1, ys2, by omega, by go_num, HI2.out⟩
          case measure => simp [intOf]; omega
        · have hki : ¬ (k : Int) < n2 := by omega
          have s1 : wr.cell? ⟨tb, 2, none⟩ = some (.slice B3 n3 d3) := hI.swap.blk.cell 2
          have hI6 : In (fun _ => False) w (RowA 51 4 (.slice B3 n3 d3) n3 bs0 :: Box tb 33 #[.slice B1 n2 d1, .slice B2 n1 d2, .slice B3 n3 d3] :: RowA 49 11 (.slice B2 n1 d2) n1 ys1 :: RowA 3 1 (.slice B1 n2 d1) n2 ys :: L) wr := hI.reorder 4 [3, 1, 2, 0] rfl (by simp)
          have HI6 := Lib.hid hI6
          clear hI hI6
          generalize ys = ys2 at *
          go_wp2_with fail
          go_loopw [54] (fun v w' => ∃ (k : Nat) (ys : List Value), k ≤ n3 ∧ v = .int .i64 k ∧ In (fun _ => False) w (RowA 51 4 (.slice B3 n3 d3) n3 ys :: Box tb 33 #[.slice B1 n2 d1, .slice B2 n1 d2, .slice B3 n3 d3] :: RowA 49 11 (.slice B2 n1 d2) n1 ys1 :: RowA 3 1 (.slice B1 n2 d1) n2 ys2 :: L) w') (fun v _ => n3 - (intOf v).toNat)
          case atStart => exact ⟨0, _, Nat.zero_le _, rfl, HI6.out⟩
          case round =>
            clear HI6 s1
            obtain ⟨k, ys, hk, rfl, hI⟩ := hrel
            have s1 : wr.cell? ⟨tb, 2, none⟩ = some (.slice B3 n3 d3) := hI.swap.blk.cell 2
            by_cases hlt : k < n3
            · have hki : (k : Int) < n3 := by omega
              obtain ⟨A'', c'', e0, hc1, hc2, hg⟩ := own_form hI.rowAt
              injection e0 with e1 e2 e3
              subst e1; subst e3
              obtain ⟨g, rfl⟩ := hg (by omega)
              have hkc : (n3 : Int) ≤ d3 := by omega
              have q1 := own_fitsO hI.rowAt hlt
              have q2 : True := trivial
              obtain ⟨ys2, hI2⟩ := hI.over hlt [0, 0, 0, 0] rfl
              have HI2 := Lib.hid hI2
              clear hI hI2 e2 hg
              go_wp2_with fail
              clear q1 q2 s1
              go_roundw
              case rel => exact ⟨k + 1, ys2, by omega, by go_num, HI2.out⟩
              case measure => simp [intOf]; omega
            · have hki : ¬ (k : Int) < n3 := by omega
              have HI7 := Lib.hid hI.drop.drop.drop.drop
              clear hI s1
              have HCW := Lib.hid (HCA.out.after HI7.out.below0)
              have HRD : Hid (Reads wr wr.heap.size 20 A' cs.length (cs.flatMap cC)) := by
                have := chunks_reads (by decide) HCW.out.reads
                rw [List.length_map, List.flatMap_map] at this
                exact this
              have hone : ∀ u ∈ cs.flatMap cC, u.oneCell' = true := by
                intro u hu
                obtain ⟨x, _, hx⟩ := List.mem_flatMap.1 hu
                obtain ⟨y, _, rfl⟩ := List.mem_map.1 hx
                rfl
              have HCP := Lib.hid (rcopy_any A' cs.length c' _ wr _ HRD.out hone HA.out hcl)
              clear hone HRD
              go_wp2_with fail
              refine HCP.out.mono ?_
              rintro e w8 ⟨ov, rfl, ho8, hb8⟩
              have hI8 : In (fun _ => False) w (RowC ov cs :: L) w8 := HI7.out.new (A := RowC ov cs) hb8 ⟨own_base ho8, fun k hk => (World.ownsRow.lt ho8 k hk).1⟩
              obtain ⟨Ao, co, rfl, _⟩ := own_form hI8.rowAt
              have HI8 := Lib.hid hI8
              have HCW2 := Lib.hid (HCA.out.after hI8.below0)
              clear hI8 ho8 hb8 HI7 HCP HCW
              go_wp2_with fail
              refine (invert_in c' HI8.out HCW2.out HA.out hcl).mono ?_
              rintro e w9 ⟨iv, rfl, hI9, _⟩
              obtain ⟨Ai, ci, rfl, hci1, hci2, _⟩ := own_form hI9.rowAt
              have hI9 : In (fun _ => False) w (RowA 64 20 (.slice Ai (invD cs).length ci) (invD cs).length ((invD cs).flatMap cC) :: RowC (.slice Ao cs.length co) cs :: L) w9 := hI9
              have hil : (invD cs).length = cs.length := by unfold invD; rw [List.length_map, List.length_reverse]
              generalize (invD cs).flatMap cC = is0 at *
              generalize (invD cs).length = ni at *
              have HI6 := Lib.hid hI9
              have s1 : True := trivial
              clear hI9 HI8 HCW2
              go_wp2_with fail
              go_loopw [69] (fun v w' => ∃ (k : Nat) (ys : List Value), k ≤ ni ∧ v = .int .i64 k ∧ In (fun _ => False) w (RowA 64 20 (.slice Ai ni ci) ni ys :: RowC (.slice Ao cs.length co) cs :: L) w') (fun v _ => ni - (intOf v).toNat)
              case atStart => exact ⟨0, _, Nat.zero_le _, rfl, HI6.out⟩
              case round =>
                clear HI6 s1
                obtain ⟨k, ys, hk, rfl, hI⟩ := hrel
                have s1 : True := trivial
                by_cases hlt : k < ni
                · have hki : (k : Int) < ni := by omega
                  obtain ⟨A'', c'', e0, hc1, hc2, hg⟩ := own_form hI.rowAt
                  injection e0 with e1 e2 e3
                  subst e1; subst e3
                  obtain ⟨g, rfl⟩ := hg (by omega)
                  have hkc : (ni : Int) ≤ ci := by omega
                  have q1 := own_fitsO hI.rowAt hlt
                  have q2 : True := trivial
                  obtain ⟨ys2, hI2⟩ := hI.over hlt [0, 0, 0, 0, 0, 0, 0, 0, 0, 0, 0, 0, 0, 0, 0, 0, 0, 0, 0, 0] rfl
                  have HI2 := Lib.hid hI2
                  clear hI hI2 e2 hg
                  go_wp2_with fail
                  clear q1 q2 s1
                  go_roundw
                  case rel => exact ⟨k + 1, ys2, by omega, by go_num, HI2.out⟩
                  case measure => simp [intOf]; omega
                · have hki : ¬ (k : Int) < ni := by omega
                  have HI7 : Hid (In (fun _ => False) w [ZooA p z, Box sb 33 #[.slice A1 n2 c1, .slice A2 n1 c2, .slice A3 n3 c3], IntsA (.slice A1 n2 c1) (gensL z.ls), RowsA (.slice A2 n1 c2) z.rows, RowB (.slice A3 n3 c3) z.B, RowC (.slice Ao cs.length co) cs] wr) := by
                    have h1 := hI.drop
                    rw [← HL.out] at h1
                    exact h1.reorder 6 [1, 2, 3, 4, 5, 0] rfl (by simp)
                  have HFS : Hid (∀ W L, In (fun _ => False) w (ZooA p z :: Box sb 33 #[.slice A1 n2 c1, .slice A2 n1 c2, .slice A3 n3 c3] :: L) W → row? W sb 0 3 = some #[.slice A1 n2 c1, .slice A2 n1 c2, .slice A3 n3 c3]) := fun W L h => by rw [h.swap.blk.row 0 3 (by simp)]; rfl
                  have q3 := HFS.out _ _ HI7.out
                  have HRC : Hid (∀ {W : World} {X1 X2 X3 X4 X5 X6 X7 X8 : Assn}, In (fun _ => False) w [X1, X2, X3, X4, X5, X6, X7, X8, RowC (.slice Ao cs.length co) cs] W → ChgsArg W Ao cs ∧ ChgsArg W A' cs) := by
                    intro W X1 X2 X3 X4 X5 X6 X7 X8 h
                    have h1 : In (fun _ => False) w (RowC (.slice Ao cs.length co) cs :: [X1, X2, X3, X4, X5, X6, X7, X8]) W := h.reorder 9 [8, 0, 1, 2, 3, 4, 5, 6, 7] rfl (by simp)
                    obtain ⟨Ao', co', e0, hch, _⟩ := h1.chgsArg HCA.out.ok
                    injection e0 with e1 e2 e3
                    subst e1
                    exact ⟨hch, HCA.out.after h1.below0⟩
                  have HFS9 : Hid (∀ {W : World} {X1 X2 X3 X4 X5 X6 X9 : Assn}, In (fun _ => False) w [X1, X2, X3, X4, X5, X6, ZooA p z, Box sb 33 #[.slice A1 n2 c1, .slice A2 n1 c2, .slice A3 n3 c3], X9] W → row? W sb 0 3 = some #[.slice A1 n2 c1, .slice A2 n1 c2, .slice A3 n3 c3]) := by
                    intro W X1 X2 X3 X4 X5 X6 X9 h
                    have h1 : In (fun _ => False) w (ZooA p z :: Box sb 33 #[.slice A1 n2 c1, .slice A2 n1 c2, .slice A3 n3 c3] :: [X1, X2, X3, X4, X5, X6, X9]) W := h.reorder 9 [6, 7, 0, 1, 2, 3, 4, 5, 8] rfl (by simp)
                    exact HFS.out _ _ h1
                  have HST : Hid (∀ (W : World), In (fun _ => False) w [ZooA p z, Box sb 33 #[.slice A1 n2 c1, .slice A2 n1 c2, .slice A3 n3 c3], IntsA (.slice A1 n2 c1) (gensL z.ls), RowsA (.slice A2 n1 c2) z.rows, RowB (.slice A3 n3 c3) z.B, RowC (.slice Ao cs.length co) cs] W → Calls Tryz.prog 12 #[ptr p] W fun e w' => ∃ gv rv bv, e = .returned (.agg #[gv, rv, bv]) ∧ In (fun _ => False) w [IntsA (.slice A1 n2 c1) (gensL z.ls), RowsA (.slice A2 n1 c2) z.rows, RowB (.slice A3 n3 c3) z.B, IntsA gv (gensL z.ls), RowsA rv z.rows, RowB bv z.B, ZooA p z, Box sb 33 #[.slice A1 n2 c1, .slice A2 n1 c2, .slice A3 n3 c3], RowC (.slice Ao cs.length co) cs] w') := fun W hW => by
                    refine (zstate_in hW HOK.out).mono ?_
                    rintro e w' ⟨gv, rv, bv, rfl, hI8⟩
                    exact ⟨gv, rv, bv, rfl, hI8.reorder 9 [5, 6, 7, 0, 1, 2, 3, 4, 8] rfl (by simp)⟩
                  clear hI HL s1
                  go_upto_region 30 with (fail)
                  go_region_held3 (fun W => row? W sb 0 3 = some #[.slice A1 n2 c1, .slice A2 n1 c2, .slice A3 n3 c3])
                    (assumption)
                    (first
                      | (go_at_call 23; refine (eqChgs_any co c' HEQ.out.1 HEQ.out.2 rfl).mono ?_; rintro e w9 ⟨rfl, hb9⟩; have HI10 := Lib.hid (HI9.out.below hb9); have t2 := HFS9.out HI10.out; have HB := Lib.hid HI10.out.below0; clear hb9)
                      | (go_at_call 13; refine (same_in HI8.out).mono ?_; rintro e w9 ⟨rfl, hb9⟩; have HI9 := Lib.hid (HI8.out.below hb9); have t1 := HFS9.out HI9.out; have HEQ := Lib.hid (HRC.out HI9.out); clear hb9)
                      | (go_at_call 12; refine (HST.out _ HI7.out.drew).mono ?_; rintro e w8 ⟨gv, rv, bv, rfl, hI8⟩; have u1 := HFS9.out hI8; have HI8 := Lib.hid hI8; clear hI8))
                  all_goals
                    go_wp2_with fail
                    go_ret
                    exact ⟨rfl, HB.out⟩

end Go.Proofs.YtjggdpnamakoeaaGreat
