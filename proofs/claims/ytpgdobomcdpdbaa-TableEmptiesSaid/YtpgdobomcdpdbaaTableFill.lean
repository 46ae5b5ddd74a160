/-
  The contract of 'filled': a table of some beasts, all of one set.
-/
import Derived.Test.YtpgdobomcdpdbaaTableLaws
import Derived.Test.YtpgdobomcdpdbaaBuild
namespace Go.Proofs.Ytpgdobomcdpdbaa
open Go.RowKit

def valN (K x : Int) (n : Nat) : List Int := (List.range 8).map fun k => if k ∈ (tks K).take n then (wrap64 (x + (k : Int))) % 1000 else 0
theorem valN_len (K x : Int) (n : Nat) : (valN K x n).length = 8 := by unfold valN; rw [List.length_map, List.length_range]
theorem valN_at (K x : Int) (n k : Nat) (hk : k < 8) : (valN K x n).getD k 0 = if k ∈ (tks K).take n then (wrap64 (x + (k : Int))) % 1000 else 0 := by
  unfold valN
  simp only [List.getD, List.getElem?_map]
  rw [List.getElem?_range hk]; rfl
theorem valN_zero (K x : Int) : valN K x 0 = [0, 0, 0, 0, 0, 0, 0, 0] := by unfold valN; rw [List.take_zero]; rfl
theorem valN_succ (K x : Int) (n : Nat) (hn : n < (tks K).length) (hk : (tks K)[n] < 8) : (valN K x n).set (tks K)[n] (wrap64 (x + ((tks K)[n] : Int)) % 1000) = valN K x (n + 1) := by
  apply List.ext_getElem?
  intro k
  by_cases h8 : k < 8
  · have h1 := valN_at K x (n + 1) k h8
    have h2 := valN_at K x n k h8
    rw [List.getElem?_set, valN_len]
    have e1 : (valN K x (n + 1))[k]? = some ((valN K x (n + 1)).getD k 0) := by simp [List.getD, List.getElem?_eq_getElem (show k < (valN K x (n + 1)).length by rw [valN_len]; exact h8)]
    have e2 : (valN K x n)[k]? = some ((valN K x n).getD k 0) := by simp [List.getD, List.getElem?_eq_getElem (show k < (valN K x n).length by rw [valN_len]; exact h8)]
    rw [e1, e2, h1, h2, List.take_succ_eq_append_getElem hn]
    by_cases hkn : (tks K)[n] = k
    · rw [if_pos hkn, if_pos hk, if_pos (by rw [hkn]; simp), hkn]
    · rw [if_neg hkn]
      have : k ∈ (tks K).take n ++ [(tks K)[n]] ↔ k ∈ (tks K).take n := by
        rw [List.mem_append, List.mem_singleton]
        exact ⟨fun h => by rcases h with h | h; exact h; exact absurd h.symm hkn, Or.inl⟩
      simp only [this]
  · rw [List.getElem?_eq_none (by rw [List.length_set, valN_len]; omega), List.getElem?_eq_none (by rw [valN_len]; omega)]
def fillB (K x : Int) : Beast := ⟨K, valN K x (tks K).length⟩
def fillRow (K : Int) (zs : List Int) (i : Nat) : RowM := ⟨((i : Int), 0), fillB K (zs.getD i 0)⟩
def fillN (K : Int) (zs : List Int) (n : Nat) : List RowM := (List.range n).map (fillRow K zs)
theorem fillN_succ (K : Int) (zs : List Int) (n : Nat) : fillN K zs (n + 1) = fillN K zs n ++ [fillRow K zs n] := by unfold fillN; rw [List.range_succ, List.map_append]; rfl
theorem fillN_len (K : Int) (zs : List Int) (n : Nat) : (fillN K zs n).length = n := by unfold fillN; rw [List.length_map, List.length_range]
theorem fillB_ok (K x : Int) (hK : 0 ≤ K ∧ K ≤ 255) : beastErr (fillB K x) = 0 := by
  refine beast_mk _ hK fun j hj => ?_
  have h1 : (fillB K x).v.getD j 0 = if j ∈ tks K then (wrap64 (x + (j : Int))) % 1000 else 0 := by
    show (valN K x (tks K).length).getD j 0 = _
    rw [valN_at K x _ j hj, List.take_length]
  rw [h1]
  refine ⟨fun ht => ?_, ?_⟩
  · rw [if_neg]
    intro hm
    have := (List.mem_filter.1 hm).2
    rw [show (fillB K x).k = K from rfl] at ht
    rw [ht] at this; cases this
  · split <;> omega

theorem In.push {E : TypeId} {size n n' : Nat} {v v' : Value} {xs xs' : List Value} {O : Obj} {F : Nat → Prop} {w0 w w3 : World} {l : List Assn} (h : In F w0 (RowA E size v n xs :: l) w) (hown : w3.ownsRow 0 E size v' n' xs') (hg : (w.alloc O).grownBy w3 v.ownBlock)
    (hat : v'.ownBlock = v.ownBlock ∨ v'.ownBlock = some (w.heap.size + 1)) : In F w0 (RowA E size v' n' xs' :: l) w3 := by
  obtain ⟨F1, hA, _, hback⟩ := h.open_
  refine hback (A' := RowA E size v' n' xs') ⟨hown, fun k hk => ?_⟩ ((Only.refl.alloc _).trans (Only.grown hg fun k hk => hA.2 k hk))
  rcases hat with e | e
  · rw [e] at hk; exact Or.inl (hA.2 k hk)
  · have := (World.ownsRow.lt hown k hk).2
    rw [e] at hk; injection hk with hk; exact Or.inr ⟨by omega, this⟩
/-- a slice of rows of one's own -/
def fixL (n : Nat) (xs : List Int) : List Int := (xs ++ List.replicate n 0).take n
theorem fixL_len (n : Nat) (xs : List Int) : (fixL n xs).length = n := by unfold fixL; rw [List.length_take, List.length_append, List.length_replicate]; omega
theorem fixL_eq {n : Nat} {xs : List Int} (h : xs.length = n) : fixL n xs = xs := by unfold fixL; rw [List.take_append_of_le_length (by omega), ← h, List.take_length]
def rowE (r : RowM) : List Int := fixL 11 r.list
def rowC (r : RowM) : List Value := (rowE r).map (Value.int .i64)
theorem rowE_len (r : RowM) : (rowE r).length = 11 := fixL_len _ _
theorem rowC_len (r : RowM) : (rowC r).length = 11 := by unfold rowC; rw [List.length_map, rowE_len]
theorem rowE_eq {r : RowM} (h : r.b.v.length = 8) : rowE r = r.list := fixL_eq (by simp [RowM.list, Beast.list, h])
abbrev RowsA (v : Value) (rows : List RowM) : Assn := RowA 41 11 v rows.length (rows.flatMap rowC)
theorem row_parts : (Try.prog.info? 41).map (fun i => (i.zero, i.size, i.bytes)) = some (some (.agg (ints zeroRow.list)), 11, 88) := by kernel_rfl

theorem In.rowsAt {F : Nat → Prop} {w0 w : World} {l : List Assn} {v : Value} {rows : List RowM} (h : In F w0 (RowsA v rows :: l) w) : ∃ A c, v = .slice A rows.length c ∧ rows.length ≤ c ∧ c ≤ maxLen ∧ ∀ k, k < rows.length → ∃ g, A = some ⟨g, 0, none⟩ ∧ row? w g (k * 11) 11 = some (ints (rowE (rows.getD k zeroRow))) := by
  obtain ⟨F1, hA⟩ := h.head
  have ho : w.ownsRow 0 41 11 v rows.length (rows.flatMap rowC) := hA.1
  obtain ⟨A, c, rfl, hc1, hc2, hg⟩ := own_form ho
  refine ⟨A, c, rfl, hc1, hc2, fun k hk => ?_⟩
  obtain ⟨g, rfl⟩ := hg (by omega)
  refine ⟨g, rfl, ?_⟩
  rw [own_row ho hk, flat_at rowC_len rows k hk]
  simp [List.getD, List.getElem?_eq_getElem hk]
  rfl
theorem fillN_at {K : Int} {zs : List Int} {n i : Nat} (h : i < n) : (fillN K zs n).getD i zeroRow = fillRow K zs i := by
  unfold fillN
  simp only [List.getD, List.getElem?_map]
  rw [List.getElem?_range h]; rfl
theorem fillRow_len (K : Int) (zs : List Int) (i : Nat) : (fillRow K zs i).b.v.length = 8 := valN_len _ _ _

set_option maxRecDepth 100000 in
theorem filled_any (kinds : Int) (A : Option Addr) (n c : Nat) (zs : List Int) (w0 w : World) (h : ReadsI w0 w0.heap.size A n zs) (hnc : n ≤ c) (hc : c ≤ maxLen) (hI : In (fun _ => False) w0 [] w) :
    Calls Try.prog 16 #[.int .i64 kinds, .slice A n c] w fun e w' => ∃ p v, e = .returned (.tuple #[.pointer (some ⟨p, 0, none⟩), v]) ∧ In (fun _ => False) w0 [RowsA v (fillN (kinds % 256) zs (min n 60)), Tbl p (kinds % 256) (fillN (kinds % 256) zs (min n 60))] w' := by
  have H := Lib.hid h
  have HI := Lib.hid hI
  have hn' : (n : Int) ≤ 9223372036854775807 := by unfold maxLen at hc; omega
  obtain ⟨m, hm1, hm2, hmi, hmm⟩ : ∃ m : Nat, m ≤ n ∧ m ≤ 60 ∧ min (n : Int) 60 = (m : Int) ∧ min n 60 = m := ⟨min n 60, by omega, by omega, by omega, rfl⟩
  have hmc : (m : Int) ≤ c := by omega
  have hcc : (c : Int) ≤ 9223372036854775807 := by unfold maxLen at hc; omega
  rw [hmm]
  clear h hI hmm
  have hK : 0 ≤ kinds % 256 ∧ kinds % 256 ≤ 255 := by omega
  obtain ⟨K, hKd⟩ : ∃ K, kinds % 256 = K := ⟨_, rfl⟩
  rw [hKd] at hK ⊢
  have HKD := Lib.hid hKd
  clear hKd
  go_enter Try.func16, Try.ntmps16
  go_wp2_with fail
  refine (rest_any kinds 256 w (by omega) (by omega)).mono ?_
  rintro e w' ⟨rfl, rfl⟩
  rw [HKD.out]
  go_wp2_with fail
  refine (tnew_in K hK HI.out).mono ?_
  rintro e w1 ⟨p, rfl, hI⟩
  have HI1 := Lib.hid hI
  clear hI HI
  go_wp2_with fail
  have HI2 : Hid (In (fun _ => False) w0 [RowsA (.slice none 0 0) [], Tbl p K []] w1) := HI1.out.add0 ⟨World.ownsRow_nil _ _ _ _, by simp [Value.ownBlock]⟩
  go_loopw [36, 8] (fun i v w' => ∃ j : Nat, j ≤ m ∧ i = .int .i64 j ∧ In (fun _ => False) w0 [RowsA v (fillN K zs j), Tbl p K (fillN K zs j)] w') (fun i _ _ => m - (intOf i).toNat)
  case atStart => exact ⟨0, by omega, rfl, HI2.out⟩
  case round =>
    clear HI2 HI1
    obtain ⟨j, hj, rfl, hI⟩ := hrel
    have HI := Lib.hid hI
    clear hI
    by_cases hlt : j < m
    · obtain ⟨b, o, rfl, hbl, hkl, hcell⟩ := H.out.at_ (k := j) (by omega)
      have hc' : wr.cell? ⟨b, o + j, none⟩ = some (.int .i64 zs[j]) := (HI.out.below0.cell (p := ⟨b, o + j, none⟩) hbl).trans hcell
      have HN : Hid (fillN K zs (j + 1) = fillN K zs j ++ [⟨((j : Int), 0), fillB K zs[j]⟩]) := by unfold Hid; rw [fillN_succ]; simp [fillRow, List.getD, List.getElem?_eq_getElem hkl]
      clear hcell
      generalize zs[j] = x at *
      go_upto_region 10 with (fail)
      refine wp_abs (In (fun _ => False) w0 [Box wr.heap.size 39 (ints (K :: valN K x 0)), RowsA u8 (fillN K zs j), Tbl p K (fillN K zs j)]) (by rw [valN_zero]; exact HI.out.struct 39 [0, 0, 0, 0, 0, 0, 0, 0, 0] [K, 0, 0, 0, 0, 0, 0, 0, 0] rfl) ?_
      generalize wr.heap.size = bb
      intro w2 hI2
      have HI2 := Lib.hid hI2
      clear HI hI2 hc'
      go_wp2_with fail
      refine (rkinds_any K w2).mono ?_
      rintro e w3 ⟨kv, rfl, ho, hb3⟩
      have hkk : kindsI (m8 K) = (tks K).map fun k : Nat => (k : Int) := by
        unfold kindsI tks m8
        have : (K % 256).toNat = K.toNat := by rw [Int.emod_eq_of_lt hK.1 (by omega)]
        rw [this]; rfl
      rw [hkk] at ho
      have HI3 := Lib.hid (HI2.out.newInts ho hb3)
      obtain ⟨A3, c3, rfl, _⟩ := HI3.out.intsAt
      have hlk : ((tks K).map fun k : Nat => (k : Int)).length = (tks K).length := List.length_map ..
      have hl8 : (tks K).length ≤ 8 := kinds_len _
      have hl9 : ((tks K).length : Int) ≤ 8 := by omega
      have HLK := Lib.hid hlk
      rw [hlk]
      clear HI2 ho hb3 hkk hlk
      go_wp2_with fail
      go_loopw [46] (fun i w' => ∃ q : Nat, q ≤ (tks K).length ∧ i = .int .i64 q ∧ In (fun _ => False) w0 [IntsA (.slice A3 ((tks K).map fun k : Nat => (k : Int)).length c3) ((tks K).map fun k : Nat => (k : Int)), Box bb 39 (ints (K :: valN K x q)), RowsA u8 (fillN K zs j), Tbl p K (fillN K zs j)] w') (fun i _ => (tks K).length - (intOf i).toNat)
      case atStart => exact ⟨0, by omega, rfl, HI3.out⟩
      case round =>
        clear HI3
        obtain ⟨q, hq, rfl, hI⟩ := hrel
        have HI := Lib.hid hI
        obtain ⟨A4, c4, hA4, hr4⟩ := hI.intsAt
        injection hA4 with e1 e2 e3
        subst e1; subst e3
        have HR4 := Lib.hid hr4
        clear hI hr4 e2
        by_cases hlt2 : q < (tks K).length
        · have hqi : (q : Int) < (tks K).length := by omega
          obtain ⟨g, o2, rfl, hgl, hkl2, hc2⟩ := HR4.out.at_ (k := q) (by rw [HLK.out]; exact hlt2)
          rw [List.getElem_map] at hc2
          have hk8 : (tks K)[q] < 8 := by have := (List.mem_filter.1 (List.getElem_mem hlt2)).1; simpa using this
          have HS := Lib.hid (valN_succ K x q hlt2 hk8)
          generalize (tks K)[q] = k at *
          have hki : (k : Int) < 8 := by omega
          have hBx := (In.swap HI.out).blk
          have d1 : wr.frozen? ⟨bb, 1 + k, none⟩ = false := hBx.frozen _
          have d2 : wr.cell? ⟨bb, 1 + k, none⟩ = some (.int .i64 ((valN K x q).getD k 0)) := by
            rw [hBx.cell, ints_get, Nat.add_comm, List.getElem?_cons_succ]
            simp [List.getD, List.getElem?_eq_getElem (show k < (valN K x q).length by rw [valN_len]; exact hk8)]
          generalize (valN K x q).getD k 0 = y0 at d2
          have HI5 := Lib.hid (In.set (In.swap HI.out) (1 + k) (.int .i64 (wrap64 (x + (k : Int)) % 1000)))
          clear hBx HR4
          go_wp2_with fail
          refine (rest_any _ 1000 _ (by omega) (by omega)).mono ?_
          rintro e w' ⟨rfl, rfl⟩
          go_wp2_with fail
          go_roundw
          case rel =>
            refine ⟨q + 1, by omega, by go_num, ?_⟩
            have h5 := HI5.out
            rw [ints_set, Nat.add_comm 1 k, List.set_cons_succ, HS.out] at h5
            rw [Nat.add_comm 1 k]
            exact h5.swap
          case measure => simp [intOf]; omega
        · have hql : q = (tks K).length := by omega
          subst hql
          clear hlt2 hq HR4
          have HB : Hid (fillB K x = ⟨K, valN K x (tks K).length⟩) := rfl
          have HOK := Lib.hid (fillB_ok K x hK)
          have hvl : (valN K x (tks K).length).length = 8 := valN_len _ _ _
          have hrb : row? wr bb 0 9 = some (ints (K :: valN K x (tks K).length)) := (In.swap HI.out).blk.row_all (by rw [List.length_cons, hvl])
          generalize valN K x (tks K).length = vs at *
          go_upto_region 16 with (fail)
          refine wp_abs (In (fun _ => False) w0 [Box wr.heap.size 41 (ints ((j : Int) :: 0 :: K :: vs)), IntsA (.slice A3 ((tks K).map fun k : Nat => (k : Int)).length c3) ((tks K).map fun k : Nat => (k : Int)), Box bb 39 (ints (K :: vs)), RowsA u8 (fillN K zs j), Tbl p K (fillN K zs j)])
            (HI.out.struct 41 zeroRow.list ((j : Int) :: 0 :: K :: vs) (by simp [hvl, zeroRow, RowM.list, Beast.list])) ?_
          generalize wr.heap.size = rb
          intro w5 hI5
          have d1 : row? w5 rb 0 2 = some #[.int .i64 (j : Int), .int .i64 0] := by
            rw [hI5.blk.row_ints 0 2 (by simp)]; rfl
          have d2 : row? w5 bb 0 9 = some (ints (K :: vs)) := hI5.third.blk.row_all (by rw [List.length_cons, hvl])
          have HI5 : Hid (In (fun _ => False) w0 [Tbl p K (fillN K zs j), RowsA u8 (fillN K zs j), Box rb 41 (ints ((j : Int) :: 0 :: K :: vs))] w5) := by
            have h1 := hI5.swap.drop
            have h2 := h1.swap.drop
            exact ⟨h2.third.third.swap.sep, h2.only⟩
          have HAR : Hid (addR K (fillN K zs j) ⟨((j : Int), 0), ⟨K, vs⟩⟩ = (fillN K zs (j + 1), (j : Int), 0)) := by
            unfold Hid addR
            rw [if_neg (by rw [← HB.out, HOK.out]; simp), if_neg (by simp), HN.out, HB.out, fillN_len]
          clear hI5 HI hrb
          go_wp2_with fail
          refine (tadd_in HI5.out (j : Int) 0 ⟨K, vs⟩ hvl (by rw [fillN_len]; omega)).mono ?_
          rintro e w6 ⟨rfl, hI6⟩
          rw [HAR.out] at hI6 ⊢
          have HI6 : Hid (In (fun _ => False) w0 [RowsA u8 (fillN K zs j), Box rb 41 (ints ((j : Int) :: 0 :: K :: vs)), Tbl p K (fillN K zs (j + 1))] w6) := hI6.third.third
          clear HI5 hI6 d1 d2
          have hx11 : ((j : Int) :: 0 :: K :: vs).length = 11 := by simp [hvl]
          have hR : RowM.list ⟨((j : Int), 0), fillB K x⟩ = (j : Int) :: 0 :: K :: vs := by rw [HB.out]; rfl
          have HX11 := Lib.hid hx11
          have HRL := Lib.hid hR
          have d3 : row? w6 rb 0 11 = some (ints ((j : Int) :: 0 :: K :: vs)) := (In.swap HI6.out).blk.row_all hx11
          have heqj : ((j : Int) != (j : Int)) = false := by simp
          have hFL : (fillN K zs j).length = j := fillN_len _ _ _
          obtain ⟨F1, hRA⟩ := HI6.out.head
          have hown : w6.ownsRow 0 41 11 u8 (fillN K zs j).length ((fillN K zs j).flatMap rowC) := hRA.1
          have HOW := Lib.hid hown
          obtain ⟨i0, hi0, hz0, hz1, hz2⟩ := info_parts row_parts
          have hone : ∀ u ∈ ((j : Int) :: 0 :: K :: vs).map (Value.int .i64), u.oneCell' = true := by
            intro u hu; obtain ⟨y, _, rfl⟩ := List.mem_map.1 hu; rfl
          have HONE := Lib.hid hone
          clear hown hRA hone hR hx11
          generalize hxs : (j : Int) :: 0 :: K :: vs = xs at *
          have HXS := Lib.hid hxs
          have hxl : xs.length = 11 := HX11.out
          clear hxs
          go_wp2_with (at_builtin; go_loud (refine wpList_append1_at rfl _ _ _ rfl 0 41 i0 _ 11 88 Try.underlying25 hi0 hz0 hz1 hz2 rfl (by decide) u8 (fillN K zs j).length _ rfl HOW.out (xs.map (Value.int .i64)) rfl (by rw [List.length_map]; exact HX11.out) HONE.out (by unfold maxLen; omega) (by omega) (Nat.zero_le _) ?_))
          intro v' w7 hown7 hg7 hat7
          have hown7' : w7.ownsRow 0 41 11 v' (fillN K zs (j + 1)).length ((fillN K zs (j + 1)).flatMap rowC) := by
            rw [HN.out, List.length_append, List.flatMap_append, List.flatMap_cons, List.flatMap_nil, List.append_nil]
            have : rowC ⟨((j : Int), 0), fillB K x⟩ = xs.map (Value.int .i64) := by unfold rowC rowE; rw [HRL.out, fixL_eq HX11.out]
            rw [this, hFL]; exact hown7
          have HI7 := Lib.hid (In.push HI6.out hown7' hg7 hat7)
          clear hown7 hown7' hg7 hat7 d3 HI6 HOW
          go_wp2_with fail
          go_roundw
          case rel => exact ⟨j + 1, by omega, by go_num, HI7.out.swap.drop⟩
          case measure => simp [intOf]; omega
    · have hjm : j = m := by omega
      subst hjm
      go_wp2_with fail
      go_ret2
      exact ⟨p, u8, rfl, HI.out⟩

end Go.Proofs.Ytpgdobomcdpdbaa
