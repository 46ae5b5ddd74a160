/-
  Several texts in one (merged by a program of mine): DiffOps.
-/
import Derived.Test.YtjggdpnamakoeaaGreatOWP31
set_option linter.unusedVariables false
set_option linter.unusedSimpArgs false
set_option linter.unusedSectionVars false
/-
  The contracts of diff.None, (rows).get and diff.of; a map of beasts.
-/
namespace Go.Proofs.YtjggdpnamakoeaaGreat
open Go.RowKit

def bV (b : List Int) : Value := .agg (ints b)
@[go_sem] theorem bV_eq (b : List Int) : bV b = .agg (ints b) := rfl
abbrev DMap (b : Nat) (m : List RowD) : Assn := MapA hdV bV (fun _ => True) b m
theorem zero_beast (w : World) : (zeroValue 39).run Tryz.prog w = .ok (bV zeroB) w := by kernel_rfl

set_option maxRecDepth 100000 in
theorem dnone_any (w : World) : Calls Tryz.prog 107 #[] w fun e w' => e = .returned (.agg (ints noneB)) ∧ Below w.heap.size w w' := by
  go_enter Tryz.func107, Tryz.ntmps107
  go_wp2_with fail
  refine bodyPost_row rfl w.heap.size 39 (ints noneB) _ rfl (blk_new_put w 39 zeroB noneB rfl) Tryz.underlying39 rfl (by rw [ints_size]; exact beast_info) rfl ?_
  exact ⟨rfl, below_new_put w 39 zeroB noneB⟩

theorem look_d {w : World} {b : Nat} {m : List RowD} (h : MapAt hdV bV (fun _ => True) w b m) (c : Hd) {w' : World} (hb : Below w.heap.size w w') :
    (Instr.lookup 147 (.map (some b)) (hdV c) true).run Tryz.prog w' = .ok (.tuple #[bV ((mget m c).getD zeroB), .bool (mget m c).isSome]) w' := by
  have := (h.after hb).look keyHd Tryz.underlying147 (zero_beast w') (x := c) trivial true
  rw [this]
  cases mget m c <;> rfl
set_option maxRecDepth 100000 in
theorem get_any {w : World} {b : Nat} {m : List RowD} (h : MapAt hdV bV (fun _ => True) w b m) (hv : ∀ r ∈ m, RowOk r) (c : Hd) :
    Calls Tryz.prog 76 #[.map (some b), hdV c] w fun e w' => e = .returned (bV (dget m c)) ∧ Below w.heap.size w w' := by
  have HM := Lib.hid h
  have HG : Hid (∀ v, mget m c = some v → v.length = 9) := fun v e => hv _ (mget_mem e)
  have HD : Hid (dget m c = (mget m c).getD noneB) := rfl
  clear h hv
  obtain ⟨c1, c2⟩ := c
  rw [hdV_eq]
  go_enter Tryz.func76, Tryz.ntmps76
  go_upto_region 1 with (fail)
  refine wp_abs (fun w' => Blk w' (w.heap.size + 1) 39 (ints zeroB) ∧ Blk w' w.heap.size 41 (ints [c1, c2]) ∧ Below w.heap.size w w') ⟨by
    have := Blk.new (w.alloc (.cells (ints [c1, c2]) 41)) 39 (ints zeroB)
    rwa [World.size_alloc] at this, (Blk.new w _ _).alloc _, ((Below.refl _ _).alloc (Nat.le_refl _) _).alloc (by simp) _⟩ ?_
  rintro w1 ⟨hR, hC, hb⟩
  have hl := look_d HM.out (c1, c2) hb
  have k1 : row? w1 w.heap.size 0 2 = some (ints [c1, c2]) := hC.row_all rfl
  have HR := Lib.hid hR
  have HB := Lib.hid hb
  have hrb : w.heap.size ≤ w.heap.size + 1 := Nat.le_succ _
  rw [show hdV (c1, c2) = .agg (ints [c1, c2]) from rfl] at hl
  clear hR hC hb HM
  generalize w.heap.size + 1 = rb at *
  cases hq : mget m (c1, c2) with
  | none =>
    rw [hq] at hl HD
    have HD2 : Hid (dget m (c1, c2) = noneB) := HD.out
    clear HD HG hq
    simp only [Option.getD_none, Option.isSome_none, bV] at hl
    go_upto_region 4 with (fail)
    refine wp_abs (fun w' => Blk w' rb 39 (ints zeroB) ∧ Below w.heap.size w w') ⟨HR.out.after (below_new_put w1 39 zeroB zeroB), HB.out.trans ((below_new_put w1 39 zeroB zeroB).mono HB.out.size)⟩ ?_
    rintro w2 ⟨hr2, hb2⟩
    have HR2 := Lib.hid hr2
    have HB2 := Lib.hid hb2
    clear hr2 hb2 hl k1
    go_wp2_with fail
    refine (dnone_any w2).mono ?_
    rintro e w3 ⟨rfl, hb3⟩
    have hr3 := HR2.out.after hb3
    have hf := hr3.fits 0 9 (by rw [ints_size]; simp [zeroB])
    have HR3 := Lib.hid hr3
    have HB3 := Lib.hid (HB2.out.trans (hb3.mono HB2.out.size))
    clear hr3 hb3
    have hn9 : noneB.length = 9 := rfl
    go_wp2_with fail
    refine bodyPost_row rfl rb 39 (ints noneB) _ rfl (HR3.out.put_all noneB rfl) Tryz.underlying39 rfl (by rw [ints_size]; exact beast_info) rfl ?_
    rw [HD2.out]
    exact ⟨rfl, below_put HB3.out hrb 0 _⟩
  | some v =>
    rw [hq] at hl HD
    have HD2 : Hid (dget m (c1, c2) = v) := HD.out
    have h9 := HG.out v hq
    clear HD HG hq
    simp only [Option.getD_some, Option.isSome_some, bV] at hl
    go_upto_region 2 with (fail)
    refine wp_abs (fun w' => Blk w' w1.heap.size 39 (ints v) ∧ Blk w' rb 39 (ints zeroB) ∧ Below w.heap.size w w') ⟨blk_new_put w1 39 zeroB v h9, HR.out.after (below_new_put w1 39 zeroB v), HB.out.trans ((below_new_put w1 39 zeroB v).mono HB.out.size)⟩ ?_
    generalize w1.heap.size = vb
    rintro w2 ⟨hv2, hr2, hb2⟩
    have k2 : row? w2 vb 0 9 = some (ints v) := hv2.row_all h9
    have hf := hr2.fits 0 9 (by rw [ints_size]; simp [zeroB])
    have HR2 := Lib.hid hr2
    have HB2 := Lib.hid hb2
    clear hr2 hb2 hl k1 hv2
    go_wp2_with fail
    refine bodyPost_row rfl rb 39 (ints v) _ rfl (HR2.out.put_all v (by rw [h9]; rfl)) Tryz.underlying39 rfl (by rw [ints_size, h9]; exact beast_info) rfl ?_
    rw [HD2.out]
    exact ⟨rfl, below_put HB2.out hrb 0 _⟩

theorem take_foldl (rs : List RowD) (k : Nat) (h : k < rs.length) : ofD (rs.take (k + 1)) = mput (ofD (rs.take k)) rs[k].1 rs[k].2 := by
  unfold ofD
  rw [List.take_succ_eq_append_getElem h, List.foldl_append]
  rfl
set_option maxHeartbeats 1000000 in
set_option maxRecDepth 100000 in
theorem dof_any (A : Option Addr) (c : Nat) (rs : List RowD) (w : World) (h : RowsIn w w.heap.size A rs) (hok : ∀ r ∈ rs, RowOk r) (hl : rs.length ≤ maxLen) :
    Calls Tryz.prog 71 #[.slice A rs.length c] w fun e w' => ∃ b, e = .returned (.map (some b)) ∧ In (fun _ => False) w [DMap b (ofD rs)] w' := by
  have H := Lib.hid h
  have HOK := Lib.hid hok
  have hl' : (rs.length : Int) ≤ 9223372036854775807 := by unfold maxLen at hl; omega
  have hmm := @run_makeMap Tryz.prog
  clear h hok
  go_enter Tryz.func71, Tryz.ntmps71
  go_upto_region 2 with (fail)
  refine wp_abs (In (fun _ => False) w [DMap w.heap.size []]) ((In.nil w _).newMap hdV bV (fun _ => True)) ?_
  generalize w.heap.size = mb
  intro w1 hI1
  have HI1 := Lib.hid hI1
  clear hI1 hmm
  go_wp2_with fail
  go_loopw [9] (fun i w' => ∃ k : Nat, k ≤ rs.length ∧ i = .int .i64 k ∧ In (fun _ => False) w [DMap mb (ofD (rs.take k))] w') (fun i _ => rs.length - (intOf i).toNat)
  case atStart => exact ⟨0, by omega, rfl, HI1.out⟩
  case round =>
    clear HI1
    obtain ⟨k, hk, rfl, hI⟩ := hrel
    have HI := Lib.hid hI
    clear hI
    by_cases hlt : k < rs.length
    · have hki : (k : Int) < rs.length := by omega
      obtain ⟨b, o, hA, hbl, hrow⟩ := RowsIn.at_ (Chunks.below H.out HI.out.below0) hlt
      subst hA
      have HT := Lib.hid (take_foldl rs k hlt)
      have hro := HOK.out _ (List.getElem_mem hlt)
      generalize hrk : rs[k] = r at *
      clear hrk
      have hrl := rL_len r
      have HRE := Lib.hid (rL_eq hro)
      obtain ⟨⟨s, g⟩, bb⟩ := r
      have HB9 : Hid (bb.length = 9) := hro
      clear hro
      go_upto_region 5 with (fail)
      refine wp_abs (In (fun _ => False) w [Box wr.heap.size 49 (ints (rL ((s, g), bb))), DMap mb (ofD (rs.take k))]) (HI.out.struct 49 [0, 0, 0, 0, 0, 0, 0, 0, 0, 0, 0] _ hrl) ?_
      generalize wr.heap.size = xb
      intro w2 hI2
      have k1 : row? w2 xb 0 2 = some (ints [s, g]) := hI2.blk.row_ints 0 2 (by rw [hrl]; omega)
      have k2 : row? w2 xb 2 9 = some (ints bb) := by
        rw [hI2.blk.row_ints 2 9 (by rw [hrl]; omega), HRE.out]
        simp only [List.drop_succ_cons, List.drop_zero]
        rw [List.take_of_length_le (by rw [HB9.out]; omega)]
      have HI2 := Lib.hid hI2.drop
      clear hI2 hrow hrl HRE HI
      go_wp2_with (at_mapUpdate; go_loud (refine wpList_store keyHd rfl _ _ _ 147 39 rfl Tryz.underlying147 mb _ rfl (In.mapAt HI2.out) (s, g) rfl trivial bb rfl ?_))
      intro w3 h1 h2 h3
      have HI3 := Lib.hid (In.mapped HI2.out h1 h2)
      clear h1 h2 h3 k1 k2
      go_wp2_with fail
      go_roundw
      case rel => exact ⟨k + 1, by omega, by go_num, by rw [HT.out]; exact HI3.out⟩
      case measure => simp [intOf]; omega
    · have hki : (rs.length : Int) ≤ k := by omega
      have HE : Hid (rs.take k = rs) := List.take_of_length_le (by omega)
      go_wp2_with fail
      go_ret
      refine ⟨mb, rfl, ?_⟩
      have := HI.out
      rw [HE.out] at this
      exact this

end Go.Proofs.YtjggdpnamakoeaaGreat
