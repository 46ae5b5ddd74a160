/-
  The contracts of Table.isRow, Row, Handles, of and Column.
-/
import Derived.Test.YtpgdobomcdpdbaaTableMem
import Derived.Test.YtpgdobomcdpdbaaQuiet
namespace Go.Proofs.Ytpgdobomcdpdbaa
open Go.RowKit

/-- what a table's readers see -/
structure TblSee (w : World) (p : Nat) (K : Int) (rows : List RowM) (hv : Value) (mb : Nat) (cb : Nat → Nat) : Prop where
  t : TRows K rows
  k : 0 ≤ K ∧ K ≤ 255
  b : Blk w p 90 #[.int .i64 K, hv, .map (some mb)]
  o : w.ownsRow 0 36 2 hv rows.length (rows.flatMap fun r => hC r.h)
  m : MapAt (Value.int .i64) ptrV goodI w mb ((tks K).map fun k : Nat => ((k : Int), cb k))
  c : ∀ k ∈ tks K, ∃ F, ColAt 96 3 1 intC w (cb k) (colOf rows k) F
theorem TblSee.after {w w' : World} {p : Nat} {K : Int} {rows : List RowM} {hv : Value} {mb : Nat} {cb : Nat → Nat} (h : TblSee w p K rows hv mb cb) (hb : Below w.heap.size w w') : TblSee w' p K rows hv mb cb :=
  ⟨h.t, h.k, h.b.after hb, own_below h.o hb, h.m.after hb, fun k hk => by obtain ⟨F, hc⟩ := h.c k hk; exact ⟨F, hc.after hb⟩⟩
theorem Tbl.see {w : World} {p : Nat} {K : Int} {rows : List RowM} {F : Nat → Prop} (h : (Tbl p K rows).at_ w F) : ∃ hv mb cb, TblSee w p K rows hv mb cb := by
  obtain ⟨hT, hK, hv, mb, cb, hs⟩ := h
  have hI : In F w ([Box p 90 #[.int .i64 K, hv, .map (some mb)], RowA 36 2 hv rows.length (rows.flatMap fun r => hC r.h), PtrMap mb ((tks K).map fun k : Nat => ((k : Int), cb k))] ++ (tks K).map fun k => ColA (cb k) (colOf rows k)) w := In.start hs
  exact ⟨hv, mb, cb, hT, hK, In.blk hI, (In.sliceAt hI).2.1, (In.third hI).mapAt, fun k hk => hI.readAt (tks_nodup K) hk⟩

theorem row_lt {w : World} {g o n : Nat} {x : Array Value} (h : row? w g o n = some x) : g < w.heap.size := by
  unfold row? at h
  split at h
  · rename_i hg; exact (Array.getElem?_eq_some_iff.1 hg).1
  · cases h
def isRowB (n : Nat) (row : Int) : Bool := decide (0 ≤ row) && decide (row < n)
theorem isRow_any {p : Nat} {K : Int} {rows : List RowM} {hv : Value} {mb : Nat} {cb : Nat → Nat} (row : Int) (w : World) (h : TblSee w p K rows hv mb cb) (hl : rows.length ≤ 100000) :
    Calls Try.prog 49 #[.pointer (some ⟨p, 0, none⟩), .int .i64 row] w fun e w' => e = .returned (.bool (isRowB rows.length row)) ∧ w = w' := by
  obtain ⟨A, c, rfl, _, _, _⟩ := own_form h.o
  have c1 : w.cell? ⟨p, 1, none⟩ = some (.slice A rows.length c) := h.b.cell 1
  clear h
  by_cases h0 : 0 ≤ row
  · have hd : Hid (isRowB rows.length row = decide (row < rows.length)) := by unfold Hid isRowB; rw [decide_eq_true h0]; rfl
    have hb : decide (0 ≤ row) = true := by simpa using h0
    go_enter Try.func49, Try.ntmps49
    go_wp2_with fail
    go_ret
    exact ⟨ret_bool hd.out.symm, rfl⟩
  · have hd : Hid (isRowB rows.length row = false) := by unfold Hid isRowB; rw [decide_eq_false h0]; rfl
    have hb : decide (0 ≤ row) = false := by simpa using h0
    go_enter Try.func49, Try.ntmps49
    go_wp2_with fail
    go_ret
    exact ⟨ret_bool hd.out.symm, rfl⟩

def rowR (rows : List RowM) (row : Int) : RowM × Int := if isRowB rows.length row then (rows.getD row.toNat zeroRow, 0) else (zeroRow, 5)
theorem rowR_len {K : Int} {rows : List RowM} (h : TRows K rows) (row : Int) : (rowR rows row).1.b.v.length = 8 := by
  unfold rowR
  split
  · rename_i hr
    simp only [isRowB, Bool.and_eq_true, decide_eq_true_eq] at hr
    have hlt : row.toNat < rows.length := by omega
    simp only [List.getD, List.getElem?_eq_getElem hlt, Option.getD_some]
    exact (h _ (List.getElem_mem hlt)).2.1
  · rfl

set_option maxRecDepth 100000 in
theorem trow_any {p : Nat} {K : Int} {rows : List RowM} {hv : Value} {mb : Nat} {cb : Nat → Nat} (row : Int) (w : World) (h : TblSee w p K rows hv mb cb) (hl : rows.length ≤ 100000) :
    Calls Try.prog 21 #[.pointer (some ⟨p, 0, none⟩), .int .i64 row] w fun e w' => e = .returned (.tuple #[.agg (ints (rowR rows row).1.list), .int .i64 (rowR rows row).2]) ∧ Below w.heap.size w w' := by
  have HS := Lib.hid h
  clear h
  go_enter Try.func21, Try.ntmps21
  go_upto_region 1 with (fail)
  refine wp_abs (fun w' => Blk w' w.heap.size 41 (ints zeroRow.list) ∧ Below w.heap.size w w') ⟨Blk.new _ _ _, (Below.refl _ _).alloc (Nat.le_refl _) _⟩ ?_
  rintro w1 ⟨hB1, hb1⟩
  have HB1 := Lib.hid hB1
  have HO1 := Lib.hid hb1
  have HS1 := Lib.hid (HS.out.after hb1)
  clear hB1 hb1
  go_wp2_with fail
  refine (isRow_any row w1 HS1.out hl).mono ?_
  rintro e w' ⟨rfl, rfl⟩
  cases hr : isRowB rows.length row
  · have HR : Hid (rowR rows row = (zeroRow, 5)) := by unfold Hid rowR; rw [hr]; rfl
    have ff : fits w1 w.heap.size 0 11 = true := HB1.out.fits 0 11 (by rw [ints_size]; decide)
    clear hr
    go_wp2_with fail
    refine bodyPost_row_tmp rfl w.heap.size 41 (ints zeroRow.list) (.int .i64 5) _ rfl rfl (HB1.out.put_all _ rfl) Try.underlying41 rfl (by rw [ints_size]; exact row_info) rfl ?_
    rw [HR.out]
    exact ⟨rfl, HO1.out.trans (below_put (Below.refl w.heap.size w1) (Nat.le_refl _) 0 _)⟩
  · have HR : Hid (rowR rows row = (rows.getD row.toNat zeroRow, 0)) := by unfold Hid rowR; rw [hr]; rfl
    simp only [isRowB, Bool.and_eq_true, decide_eq_true_eq] at hr
    obtain ⟨i, rfl⟩ : ∃ i : Nat, row = i := ⟨row.toNat, by omega⟩
    have hil : i < rows.length := by omega
    have hii : (i : Int) < rows.length := by omega
    rw [Int.toNat_natCast] at HR
    have HT := Lib.hid (HS.out.t _ (List.getElem_mem hil))
    obtain ⟨A, c, rfl, hc1, hc2, hA⟩ := own_form HS1.out.o
    obtain ⟨g, rfl⟩ := hA (by omega)
    have hfl : ∀ r : RowM, (hC r.h).length = 2 := fun _ => rfl
    have q1 : row? w1 g (i * 2) 2 = some (ints (hL (rows.getD i zeroRow).h)) := by
      rw [own_row HS1.out.o hil, flat_at hfl rows i hil]
      simp [List.getD, List.getElem?_eq_getElem hil]; rfl
    have c1 : w1.cell? ⟨p, 1, none⟩ = some (.slice (some ⟨g, 0, none⟩) rows.length c) := HS1.out.b.cell 1
    have c0 : w1.cell? ⟨p, 0, none⟩ = some (.int .i64 K) := HS1.out.b.cell 0
    have hgd : rows.getD i zeroRow = rows[i] := by simp [List.getD, List.getElem?_eq_getElem hil]
    rw [← hgd] at HT
    have HRW : Hid (∀ k, (colOf rows k).getD i 0 = (rows.getD i zeroRow).b.v.getD k 0) := fun k => by
      unfold colOf; simp only [List.getD, List.getElem?_map, List.getElem?_eq_getElem hil, Option.map_some, Option.getD_some]
    generalize rows.getD i zeroRow = r at *
    obtain ⟨⟨r1, r2⟩, b⟩ := r
    change row? w1 g (i * 2) 2 = some #[.int .i64 r1, .int .i64 r2] at q1
    clear hr hA hfl hgd
    have hpl := World.block_lt_of_cell? _ _ c1
    have hgl := row_lt q1
    generalize hX : w1.alloc (.cells (ints zeroRow.list) 41) = w2
    have hb2 : Below w1.heap.size w1 w2 := by rw [← hX]; exact (Below.refl _ _).alloc (Nat.le_refl _) _
    have q1' : row? w2 g (i * 2) 2 = some #[.int .i64 r1, .int .i64 r2] := (row_below hb2 hgl _ _).trans q1
    have c1' : w2.cell? ⟨p, 1, none⟩ = some (.slice (some ⟨g, 0, none⟩) rows.length c) := (hb2.cell (p := ⟨p, 1, none⟩) hpl).trans c1
    have c0' : w2.cell? ⟨p, 0, none⟩ = some (.int .i64 K) := (hb2.cell (p := ⟨p, 0, none⟩) hpl).trans c0
    have hX' : w1.alloc (.cells #[.int .i64 0, .int .i64 0, .int .i64 0, .int .i64 0, .int .i64 0, .int .i64 0, .int .i64 0, .int .i64 0, .int .i64 0, .int .i64 0, .int .i64 0] 41) = w2 := hX
    have hBn : Blk w2 w1.heap.size 41 (ints zeroRow.list) := by rw [← hX]; exact Blk.new _ _ _
    have f2 : fits w2 w1.heap.size 0 11 = true := hBn.fits 0 11 (by rw [ints_size]; decide)
    have HBn := Lib.hid (hBn.put_all [r1, r2, K, 0, 0, 0, 0, 0, 0, 0, 0] rfl)
    have HB2 := Lib.hid hb2
    clear hX hBn hb2
    go_wp2_with fail
    go_region
    have HO2 : Hid (Below w.heap.size w (putRow w2 w1.heap.size 0 [r1, r2, K, 0, 0, 0, 0, 0, 0, 0, 0]).drew) := (HO1.out.trans ((below_put HB2.out (Nat.le_refl _) 0 _).mono HO1.out.size)).drew
    have HRs : Hid (Blk (putRow w2 w1.heap.size 0 [r1, r2, K, 0, 0, 0, 0, 0, 0, 0, 0]).drew w.heap.size 41 (ints zeroRow.list)) := ((HB1.out.after HB2.out).put_far 0 _ (by have := HB1.out.lt; omega)).drew
    have HBn' : Hid (Blk (putRow w2 w1.heap.size 0 [r1, r2, K, 0, 0, 0, 0, 0, 0, 0, 0]).drew w1.heap.size 41 (ints [r1, r2, K, 0, 0, 0, 0, 0, 0, 0, 0])) := HBn.out.drew
    have hrb : Hid (w.heap.size < w1.heap.size) := HB1.out.lt
    generalize (putRow w2 w1.heap.size 0 [r1, r2, K, 0, 0, 0, 0, 0, 0, 0, 0]).drew = w3 at *
    clear HBn HB2 hX' c0' c1' q1' f2 HS1 c0 c1 q1
    generalize w1.heap.size = rb at *
    have HS3 := Lib.hid (HS.out.after HO2.out)
    have c1 : w3.cell? ⟨p, 2, none⟩ = some (.map (some mb)) := HS3.out.b.cell 2
    go_wp2_with (at_range; go_loud (refine wpList_rangeOver rfl _ 88 91 rfl Try.underlying88 mb _ rfl HS3.out.m ?_))
    intro w4 hr4 hb4 hs4
    have HRA := Lib.hid hr4
    have HRs4 := Lib.hid (HRs.out.after hb4)
    have HBn4 := Lib.hid (HBn'.out.after hb4)
    have HO4 : Hid (Below w.heap.size w w4) := HO2.out.trans (hb4.mono HO2.out.size)
    have hri : Hid (rb < w3.heap.size) := HBn'.out.lt
    clear hr4 hb4 hs4 HS3 c1 HRs HBn' HO2
    generalize w3.heap.size = ri at *
    go_wp2_with fail
    go_loopw [7] (fun _ w' => ∃ left vs, RangeAt (Value.int .i64) ptrV goodI w' mb ri ((tks K).map fun k : Nat => ((k : Int), cb k)) left ∧ Blk w' w.heap.size 41 (ints zeroRow.list) ∧ Blk w' rb 41 (ints ([r1, r2, K] ++ vs)) ∧
      vs.length = 8 ∧ (∀ k, k < 8 → vs.getD k 0 = if (k : Int) ∈ mkeys left ∨ k ∉ tks K then 0 else b.v.getD k 0) ∧ Below w.heap.size w w') (fun _ w' => w'.rangeLeft mb ri)
    case atStart =>
      refine ⟨_, [0, 0, 0, 0, 0, 0, 0, 0], HRA.out, HRs4.out, HBn4.out, rfl, fun k hk => ?_, HO4.out⟩
      have h0 : ([0, 0, 0, 0, 0, 0, 0, 0] : List Int).getD k 0 = 0 := by
        match k, hk with
        | 0, _ | 1, _ | 2, _ | 3, _ | 4, _ | 5, _ | 6, _ | 7, _ => rfl
      rw [h0]
      by_cases hkt : k ∈ tks K
      · rw [if_pos (Or.inl (by simp only [mkeys, List.map_map]; exact List.mem_map.2 ⟨k, hkt, rfl⟩))]
      · rw [if_pos (Or.inr hkt)]
    case round =>
      clear HRA HRs4 HBn4 HO4
      obtain ⟨left, vs, h1, h2, h3, h4, h5, h6⟩ := hrel
      have H1 := Lib.hid h1
      have H2 := Lib.hid h2
      have H3 := Lib.hid h3
      have H5 := Lib.hid h5
      have H6 := Lib.hid h6
      have hvl := Lib.hid h4
      clear h1 h2 h3 h4 h5 h6
      go_wp2_with (at_next; go_loud (refine wpList_nextOf keyI rfl _ rfl mb ri _ left rfl H1.out ?_ ?_))
      · intro hl0
        subst hl0
        have hvs : vs = b.v := by
          apply List.ext_getElem?
          intro j
          have hv8 := hvl.out
          have hb8 : b.v.length = 8 := HT.out.2.1
          by_cases hj : j < 8
          · have h1 := H5.out j hj
            have h2 : j ∉ tks K → b.v.getD j 0 = 0 := HT.out.2.2 j hj
            simp only [List.getD, List.getElem?_eq_getElem (show j < vs.length by omega), List.getElem?_eq_getElem (show j < b.v.length by omega), Option.getD_some] at h1 h2 ⊢
            by_cases hjt : j ∈ tks K
            · rw [if_neg (by rintro (hm | hm); simp [mkeys] at hm; exact hm hjt)] at h1
              rw [h1]
            · rw [if_pos (Or.inr hjt)] at h1
              rw [h1, h2 hjt]
          · rw [List.getElem?_eq_none (by omega), List.getElem?_eq_none (by omega)]
        subst hvs
        have hk : b.k = K := HT.out.1
        have hlist : [r1, r2, K] ++ b.v = RowM.list ⟨(r1, r2), b⟩ := by rw [← hk]; rfl
        have HBB := H3.out
        rw [hlist] at HBB
        have hlen : (RowM.list ⟨(r1, r2), b⟩).length = 11 := by have := hvl.out; simp [RowM.list, Beast.list, this]
        have q1 : row? wr rb 0 11 = some (ints (RowM.list ⟨(r1, r2), b⟩)) := HBB.row_all hlen
        have f1 : fits wr w.heap.size 0 11 = true := H2.out.fits 0 11 (by rw [ints_size]; decide)
        have HLEN := Lib.hid hlen
        have HRS : Hid (Blk (putRow wr w.heap.size 0 (RowM.list ⟨(r1, r2), b⟩)) w.heap.size 41 (ints (RowM.list ⟨(r1, r2), b⟩))) := H2.out.put_all _ hlen
        clear hk hlist HBB
        generalize hxs : RowM.list ⟨(r1, r2), b⟩ = xs at *
        have HXS := Lib.hid hxs
        clear hxs
        go_wp2_with fail
        refine bodyPost_row_tmp rfl w.heap.size 41 (ints xs) (.int .i64 0) _ rfl rfl HRS.out Try.underlying41 rfl (by rw [ints_size, HLEN.out]; exact row_info) rfl ?_
        rw [HR.out]
        exact ⟨by rw [← HXS.out], below_put H6.out (Nat.le_refl _) 0 _⟩
      · intro x v w7 hx hr7 ho7 hs7 hlt7 hen
        obtain ⟨k, hk, hke⟩ := List.mem_map.1 (H1.out.sub _ hx)
        injection hke with e1 e2
        subst e1; subst e2
        have hk8 : k < 8 := by have := (List.mem_filter.1 hk).1; simpa using this
        have hki : (k : Int) < 8 := by omega
        have hwr : w.heap.size ≤ ri := by have := hrb.out; have := hri.out; omega
        have hb7 : Below w.heap.size w w7 := H6.out.trans (ho7.below (B := w.heap.size) H6.out.size fun q _ e => by rw [e]; exact hwr)
        have hS7 := HS.out.after hb7
        obtain ⟨F1, hC⟩ := hS7.c k hk
        obtain ⟨A3, c3, f1, f2, f3, f4, f5, f6, f7, f8⟩ := hC.slice
        have hcl : (colOf rows k).length = rows.length := by unfold colOf; rw [List.length_map]
        obtain ⟨A4, c4, hA4, _, _, hA5⟩ := own_form f5
        injection hA4 with e3 e4 e5
        obtain ⟨g3, hg3⟩ := hA5 (by omega)
        have e6 : A3 = some ⟨g3, 0, none⟩ := e3.trans hg3
        subst e6
        have hfi : ∀ x : Int, (intC x).length = 1 := fun _ => rfl
        have d1 : w7.cell? ⟨g3, i, none⟩ = some (.int .i64 (b.v.getD k 0)) := by
          rw [World.ownsRow.cellAt f5 i (by rw [hcl]; omega), ← Nat.mul_one i, ← Nat.add_zero (i * 1), flat_get hfi (colOf rows k) i 0 (by rw [hcl]; omega) (by omega), ← HRW.out k]
          simp [List.getD, List.getElem?_eq_getElem (show i < (colOf rows k).length by rw [hcl]; omega), intC]
        rw [hcl] at f1
        have hB2 := H2.out
        have hB3 := ho7.blk H3.out (fun e => by have := hri.out; omega)
        have hB2' := ho7.blk H2.out (fun e => by have := hrb.out; have := hri.out; omega)
        have c2 : w7.frozen? ⟨rb, 1 + 1 + 1 + k, none⟩ = false := hB3.frozen _
        have hvk : vs.length = 8 := hvl.out
        have c3 : w7.cell? ⟨rb, 1 + 1 + 1 + k, none⟩ = some (.int .i64 (vs.getD k 0)) := by
          rw [hB3.cell, ints_get, show 1 + 1 + 1 + k = k + 3 from by omega]
          simp [List.getD, List.getElem?_eq_getElem (show k < vs.length by omega)]
        have HR7 := Lib.hid hr7
        have HB3 := Lib.hid hB3
        have HB2 := Lib.hid hB2'
        have HB7 := Lib.hid hb7
        have HX := Lib.hid hx
        have HLT := Lib.hid hlt7
        have HK2 := Lib.hid hk
        clear hr7 ho7 hs7 hlt7 hx hk hC f2 f3 f4 f5 f6 f7 f8 hA5 hB2 hB3 hB2' hS7 hb7 hcl hvk e4 e3 e5 hg3
        obtain ⟨y, hy⟩ : ∃ y, b.v.getD k 0 = y := ⟨_, rfl⟩
        rw [hy] at d1
        have HY := Lib.hid hy
        clear hy
        generalize vs.getD k 0 = y0 at c3
        go_wp2_with fail
        have hmb := HS.out.m.lt
        have hO8 : Only (· = rb) w7 (w7.setCell ⟨rb, 3 + k, none⟩ (.int .i64 y)) := (Only.refl (F := (· = rb))).setCell (g := rb) (Or.inl rfl) _ _
        have HR8 := Lib.hid (HR7.out.only hO8 (by have := hrb.out; omega) (by have := hri.out; omega))
        go_roundw
        case rel =>
          refine ⟨mdel left (k : Int), vs.set k y, HR8.out, HB2.out.far (by have := hrb.out; omega) _ _, ?_, by rw [List.length_set]; exact hvl.out, fun j hj => ?_, HB7.out.setCell (p := ⟨rb, 3 + k, none⟩) (by have := hrb.out; simp; omega) _⟩
          · have := HB3.out.set (3 + k) (.int .i64 y)
            rw [ints_set] at this
            have e : ([r1, r2, K] ++ vs).set (3 + k) y = [r1, r2, K] ++ vs.set k y := by
              rw [List.set_append_right _ _ (by simp)]; simp
            rw [e] at this; exact this
          · rw [getD_set]
            by_cases hjk : k = j
            · subst hjk
              rw [if_pos ⟨rfl, by rw [hvl.out]; omega⟩, if_neg]
              · exact HY.out.symm
              · rintro (hm | hm)
                · obtain ⟨q, hq, e⟩ := List.mem_map.1 hm
                  exact (mem_mdel.1 hq).2 e
                · exact hm HK2.out
            · rw [if_neg (fun h => hjk h.1), H5.out j hj]
              have : (j : Int) ∈ mkeys (mdel left (k : Int)) ↔ (j : Int) ∈ mkeys left := by
                constructor
                · intro hm; obtain ⟨q, hq, e⟩ := List.mem_map.1 hm; exact List.mem_map.2 ⟨q, (mem_mdel.1 hq).1, e⟩
                · intro hm; obtain ⟨q, hq, e⟩ := List.mem_map.1 hm; exact List.mem_map.2 ⟨q, mem_mdel.2 ⟨hq, by simp only [e]; omega⟩, e⟩
              simp only [this]
        case measure => rw [HR8.out.count, H1.out.count]; exact HLT.out

end Go.Proofs.Ytpgdobomcdpdbaa
