/-
  Several texts in one (merged by a program of mine): DiffInvert, DiffUse.
-/
import Derived.Test.YtjggdpnamakoeaaGreatOWP51
import Derived.BigRegion
set_option linter.unusedVariables false
set_option linter.unusedSimpArgs false
set_option linter.unusedSectionVars false
/-
  The contracts of slices.Reverse at changes and of diff.Invert.
-/
namespace Go.Proofs.YtjggdpnamakoeaaGreat
open Go.RowKit

/-- some cells of an own slice written over -/
theorem own_putAt {w : World} {B : Nat} {e : TypeId} {size n c g o : Nat} {xs : List Value} {ys : List Int} (h : w.ownsRow B e size (.slice (some ⟨g, 0, none⟩) n c) n xs) (ho : o + ys.length ≤ n * size) :
    (putRow w g o ys).ownsRow B e size (.slice (some ⟨g, 0, none⟩) n c) n (xs.take o ++ ys.map (Value.int .i64) ++ xs.drop (o + ys.length)) := by
  obtain ⟨h1, h2⟩ := h
  have hxl : (xs.take o).length = o := by rw [List.length_take]; omega
  refine ⟨by rw [List.length_append, List.length_append, hxl, List.length_map, List.length_drop]; omega, ?_⟩
  rcases h2 with ⟨e1, h0⟩ | ⟨g', cap, cur, e1, hb, hg, h3, h4, h5, h6⟩
  · cases e1
  · injection e1 with e1 e2 e3
    injection e1 with e1
    injection e1 with e1
    subst e1; subst e3
    have hle2 : n * size ≤ c * size := Nat.mul_le_mul_right _ h3
    refine Or.inr ⟨g, c, (cur.toList.take o ++ ys.map (Value.int .i64) ++ cur.toList.drop (o + ys.length)).toArray, rfl, hb, ?_, h3, h4, ?_, ?_⟩
    · simp [putRow, Array.getElem?_modify, hg]
    · simp; omega
    · rw [List.toList_toArray, ← h6]
      have hl1 : (cur.toList.take o).length = o := by rw [List.length_take]; simp; omega
      have hl2 : ((cur.toList.take (n * size)).take o) = cur.toList.take o := by rw [List.take_take, Nat.min_eq_left (by omega)]
      rw [hl2, List.drop_take]
      generalize cur.toList.take o = P at hl1 ⊢
      have hl3 : (P ++ ys.map (Value.int .i64)).length = o + ys.length := by rw [List.length_append, hl1, List.length_map]
      rw [List.take_append, hl3, List.take_of_length_le (by rw [hl3]; exact ho)]
theorem chunks_reads {w : World} {B size : Nat} {A : Option Addr} {rs : List (List Int)} (hs : 0 < size) (h : Chunks w B size A rs) : Reads w B size A rs.length (rs.flatMap fun r => r.map (Value.int .i64)) := by
  obtain ⟨h1, h2⟩ := h
  have hf : ∀ r ∈ rs, (r.map (Value.int .i64)).length = size := fun r hr => by rw [List.length_map, h1 r hr]
  have hl : (rs.flatMap fun r => r.map (Value.int .i64)).length = rs.length * size := by
    clear h2 h1
    induction rs with
    | nil => simp
    | cons r rs ih => rw [List.flatMap_cons, List.length_append, hf r (by simp), ih (fun r hr => hf r (by simp [hr])), List.length_cons, Nat.add_mul]; omega
  refine ⟨hl, fun h0 => ?_⟩
  obtain ⟨b, o, e, hb, hr⟩ := h2 h0
  refine ⟨b, o, e, hb, fun j u hu => ?_⟩
  have hj := (List.getElem?_eq_some_iff.1 hu).1
  have hk : j / size < rs.length := (Nat.div_lt_iff_lt_mul hs).2 (by omega)
  have hm := Nat.mod_lt j hs
  have hdj : j = j / size * size + j % size := by rw [Nat.mul_comm]; exact (Nat.div_add_mod j size).symm
  have hrow := hr (j / size) _ (List.getElem?_eq_getElem hk)
  have hget : ∀ (l : List (List Int)) (k i : Nat) (hk : k < l.length), (∀ r ∈ l, (r.map (Value.int .i64)).length = size) → i < size → (l.flatMap fun r => r.map (Value.int .i64))[k * size + i]? = (l[k].map (Value.int .i64))[i]? := by
    intro l
    induction l with
    | nil => intro k i hk; simp at hk
    | cons a l ih =>
      intro k i hk hfl hi
      rw [List.flatMap_cons]
      cases k with
      | zero => rw [Nat.zero_mul, Nat.zero_add, List.getElem?_append_left (by rw [hfl a (by simp)]; exact hi)]; rfl
      | succ k =>
        rw [List.getElem?_append_right (by rw [hfl a (by simp), Nat.add_mul]; omega), hfl a (by simp), show (k + 1) * size + i - size = k * size + i from by rw [Nat.add_mul]; omega]
        exact ih k i (by simpa using hk) (fun r hr => hfl r (by simp [hr])) hi
  rw [hdj, hget rs _ _ hk hf hm] at hu
  unfold row? at hrow
  split at hrow
  · rename_i cs t fr hg
    split at hrow
    · rename_i hle
      injection hrow with hrow
      rw [cell_of_row w b _ cs t fr hg]
      have h3 : (cs.extract (o + j / size * size) (o + j / size * size + size))[j % size]? = some u := by
        rw [hrow]; unfold ints; simpa using hu
      rw [Array.getElem?_extract] at h3
      split at h3
      · rw [show o + j = o + j / size * size + j % size from by omega]; exact h3
      · cases h3
    · cases hrow
  · cases hrow

/-- k swaps done -/
def swapTo (cs : List Chg) : Nat → List Chg
  | 0 => cs
  | k + 1 => ((swapTo cs k).set k ((swapTo cs k).getD (cs.length - 1 - k) ⟨(0, 0), [], []⟩)).set (cs.length - 1 - k) ((swapTo cs k).getD k ⟨(0, 0), [], []⟩)
theorem swapTo_len (cs : List Chg) (k : Nat) : (swapTo cs k).length = cs.length := by
  induction k with
  | zero => rfl
  | succ k ih => unfold swapTo; rw [List.length_set, List.length_set, ih]
theorem swapTo_get (cs : List Chg) : ∀ (k : Nat), 2 * k ≤ cs.length → ∀ p, p < cs.length → (swapTo cs k)[p]? = if p < k ∨ cs.length - 1 - k < p then cs[cs.length - 1 - p]? else cs[p]?
  | 0, _, p, hp => by rw [if_neg (by omega)]; rfl
  | k + 1, hk, p, hp => by
    have ih := swapTo_get cs k (by omega)
    have hl := swapTo_len cs k
    unfold swapTo
    have g1 : ∀ q, q < cs.length → (swapTo cs k)[q]? = some ((swapTo cs k).getD q ⟨(0, 0), [], []⟩) := fun q hq => by
      rw [List.getD_eq_getElem?_getD, List.getElem?_eq_getElem (by omega)]; rfl
    rw [List.getElem?_set, List.length_set, hl, List.getElem?_set, hl]
    by_cases e1 : cs.length - 1 - k = p
    · rw [if_pos e1, if_pos (by omega), ← g1 k (by omega), ih k (by omega), if_neg (by omega), if_pos (by omega)]
      congr 1; omega
    · rw [if_neg e1]
      by_cases e2 : k = p
      · rw [if_pos e2, if_pos (by omega), ← g1 _ (by omega), ih _ (by omega), if_neg (by omega), if_pos (by omega)]
        congr 1; omega
      · rw [if_neg e2, ih p hp]
        by_cases e3 : p < k ∨ cs.length - 1 - k < p
        · rw [if_pos e3, if_pos (by omega)]
        · rw [if_neg e3, if_neg (by omega)]
theorem swapTo_all (cs : List Chg) (k : Nat) (h1 : 2 * k ≤ cs.length) (h2 : cs.length ≤ 2 * k + 1) : swapTo cs k = cs.reverse := by
  apply List.ext_getElem?
  intro p
  by_cases hp : p < cs.length
  · rw [swapTo_get cs k h1 p hp, List.getElem?_reverse hp]
    split
    · rfl
    · congr 1; omega
  · rw [List.getElem?_eq_none (by rw [swapTo_len]; omega), List.getElem?_eq_none (by rw [List.length_reverse]; omega)]

section
variable {G : Nat → Prop} {w0 w : World} {l : List Assn} {g c : Nat}
theorem In.ownPut {E : TypeId} {size n o : Nat} {xs : List Value} {ys : List Int} (h : In G w0 (RowA E size (.slice (some ⟨g, 0, none⟩) n c) n xs :: l) w) (ho : o + ys.length ≤ n * size) :
    In G w0 (RowA E size (.slice (some ⟨g, 0, none⟩) n c) n (xs.take o ++ ys.map (Value.int .i64) ++ xs.drop (o + ys.length)) :: l) (putRow w g o ys) := by
  obtain ⟨F1, ⟨h1, h2⟩, _, hb⟩ := h.open_
  exact hb (A' := RowA E size (.slice (some ⟨g, 0, none⟩) n c) n _) ⟨own_putAt h1 ho, fun k hk => Or.inl (h2 k hk)⟩ ((Only.putRow w g o ys).mono fun k _ e => h2 k (by rw [e]; rfl))
theorem In.setC {cs : List Chg} {k : Nat} (h : In G w0 (RowC (.slice (some ⟨g, 0, none⟩) cs.length c) cs :: l) w) (hk : k < cs.length) (x : Chg) :
    In G w0 (RowC (.slice (some ⟨g, 0, none⟩) cs.length c) (cs.set k x) :: l) (putRow w g (k * 20) (cL x)) := by
  obtain ⟨F1, ⟨h1, h2⟩, _, hb⟩ := h.open_
  have h3 := own_put (enc := cL) cL_len h1 hk x
  have hA : (RowA 64 20 (.slice (some ⟨g, 0, none⟩) cs.length c) cs.length ((cs.set k x).flatMap cC)).at_ (putRow w g (k * 20) (cL x)) (Plus F1 w (putRow w g (k * 20) (cL x))) := ⟨h3, fun k hk => Or.inl (h2 k hk)⟩
  have h4 := hb hA ((Only.putRow w g (k * 20) (cL x)).mono fun k _ e => h2 k (by rw [e]; rfl))
  unfold RowC
  rw [List.length_set]
  exact h4
theorem In.chg {cs : List Chg} {k : Nat} (h : In G w0 (RowC (.slice (some ⟨g, 0, none⟩) cs.length c) cs :: l) w) (hk : k < cs.length) : row? w g (k * 20) 20 = some (ints (cL cs[k])) := by
  have h1 := own_row h.rowAt hk
  rw [flat_at cC_len cs k hk] at h1
  exact h1
theorem In.fitC {cs : List Chg} {k : Nat} (h : In G w0 (RowC (.slice (some ⟨g, 0, none⟩) cs.length c) cs :: l) w) (hk : k < cs.length) : fits w g (k * 20) 20 = true := own_fits h.rowAt hk
end

set_option maxHeartbeats 4000000 in
set_option maxRecDepth 100000 in
theorem reverseD_in {G : Nat → Prop} {w0 w : World} {l : List Assn} {v : Value} {cs : List Chg} (h : In G w0 (RowC v cs :: l) w) :
    Calls Tryz.prog 43 #[v] w fun e w' => e = .returned (.tuple #[]) ∧ In G w0 (RowC v cs.reverse :: l) w' := by
  obtain ⟨A, c, rfl, hc1, hc2, hA⟩ := own_form h.rowAt
  have HI0 := Lib.hid h
  have hn : (cs.length : Int) ≤ 9223372036854775807 := by unfold maxLen at hc2; omega
  have HA := Lib.hid hA
  clear h hA hc1 hc2
  have hsub : IntKind.i64.wrap ((cs.length : Int) - 1) = (cs.length : Int) - 1 := IntWalk.i64_in _ (by omega)
  go_enter Tryz.func43, Tryz.ntmps43
  go_wp2_with fail
  go_loopw [2, 3] (fun i j w' => ∃ (k : Nat) (jv : Int), 2 * k ≤ cs.length ∧ i = .int .i64 k ∧ j = .int .i64 jv ∧ jv = (cs.length : Int) - 1 - k ∧ In G w0 (RowC (.slice A cs.length c) (swapTo cs k) :: l) w') (fun i _ _ => cs.length - (intOf i).toNat)
  case atStart => exact ⟨0, _, by omega, rfl, rfl, by omega, HI0.out⟩
  case round =>
    clear HI0 hsub
    obtain ⟨k, jv, hk, rfl, rfl, hj, hI⟩ := hrel
    have HI := Lib.hid hI
    clear hI
    by_cases hlt : (k : Int) < jv
    · obtain ⟨J, rfl⟩ : ∃ J : Nat, jv = J := ⟨jv.toNat, by omega⟩
      obtain ⟨g, rfl⟩ := HA.out (by omega)
      have HJ : Hid (cs.length - 1 - k = J) := by unfold Hid; omega
      have HL := Lib.hid (swapTo_len cs k)
      have hkn : (k : Int) < cs.length := by omega
      have hJn : (J : Int) < cs.length := by omega
      have hI := HI.out
      have hst : swapTo cs (k + 1) = ((swapTo cs k).set k ((swapTo cs k).getD (cs.length - 1 - k) ⟨(0, 0), [], []⟩)).set (cs.length - 1 - k) ((swapTo cs k).getD k ⟨(0, 0), [], []⟩) := rfl
      rw [HJ.out] at hst
      have HST := Lib.hid hst
      clear hst
      generalize swapTo cs k = ds at *
      have hI2 : In G w0 (RowC (.slice (some ⟨g, 0, none⟩) ds.length c) ds :: l) wr := by rw [HL.out]; exact hI
      have hkd : k < ds.length := by have := HL.out; omega
      have hJd : J < ds.length := by have := HL.out; omega
      have r1 := hI2.chg hkd
      have r2 := hI2.chg hJd
      have f1 := hI2.fitC hkd
      have f2 := hI2.fitC hJd
      rw [List.getD_eq_getElem?_getD, List.getElem?_eq_getElem hJd, List.getD_eq_getElem?_getD, List.getElem?_eq_getElem hkd] at HST
      simp only [Option.getD_some] at HST
      generalize hx : ds[k] = x at *
      generalize hy : ds[J] = y at *
      have HI3 := Lib.hid (hI2.setC hkd y)
      have hl3 : (ds.set k y).length = ds.length := List.length_set
      have hI3b : In G w0 (RowC (.slice (some ⟨g, 0, none⟩) (ds.set k y).length c) (ds.set k y) :: l) (putRow wr g (k * 20) (cL y)) := by rw [hl3]; exact HI3.out
      have f3 := hI3b.fitC (k := J) (by rw [hl3]; exact hJd)
      have HI4 : Hid (In G w0 (RowC (.slice (some ⟨g, 0, none⟩) cs.length c) (swapTo cs (k + 1)) :: l) (putRow (putRow wr g (k * 20) (cL y)) g (J * 20) (cL x))) := by
        rw [HST.out]
        have := hI3b.setC (k := J) (by rw [hl3]; exact hJd) x
        rw [hl3, HL.out] at this
        exact this
      have hI5 := hI2.setC hJd x
      have hl5 : (ds.set J x).length = ds.length := List.length_set
      have hI5b : In G w0 (RowC (.slice (some ⟨g, 0, none⟩) (ds.set J x).length c) (ds.set J x) :: l) (putRow wr g (J * 20) (cL x)) := by rw [hl5]; exact hI5
      have f4 := hI5b.fitC (k := k) (by rw [hl5]; exact hkd)
      have HI6 : Hid (In G w0 (RowC (.slice (some ⟨g, 0, none⟩) cs.length c) (swapTo cs (k + 1)) :: l) (putRow (putRow wr g (J * 20) (cL x)) g (k * 20) (cL y))) := by
        rw [HST.out, List.set_comm _ _ (by omega)]
        have := hI5b.setC (k := k) (by rw [hl5]; exact hkd) y
        rw [hl5, HL.out] at this
        exact this
      have lx := cL_len x
      have ly := cL_len y
      generalize cL x = xs at *
      generalize cL y = ys at *
      have HJI := Lib.hid hj
      clear hj hI hI2 hI3b hI5 hI5b hx hy hl3 hl5 HI3 HST HI hkd hJd
      go_upto_region 3 with (fail)
      go_region
      all_goals
        (first
          | (have HJN : Hid (In G w0 (RowC (.slice (some ⟨g, 0, none⟩) cs.length c) (swapTo cs (k + 1)) :: l) (putRow (putRow wr g (k * 20) ys) g (J * 20) xs).drew) := HI4.out.drew
             obtain ⟨W9, hW9⟩ : ∃ W9, (putRow (putRow wr g (k * 20) ys) g (J * 20) xs).drew = W9 := ⟨_, rfl⟩
             rw [hW9]
             rw [hW9] at HJN)
          | (have HJN : Hid (In G w0 (RowC (.slice (some ⟨g, 0, none⟩) cs.length c) (swapTo cs (k + 1)) :: l) (putRow (putRow wr g (J * 20) xs) g (k * 20) ys).drew) := HI6.out.drew
             obtain ⟨W9, hW9⟩ : ∃ W9, (putRow (putRow wr g (J * 20) xs) g (k * 20) ys).drew = W9 := ⟨_, rfl⟩
             rw [hW9]
             rw [hW9] at HJN))
        clear hW9 r1 r2 f1 f2 f3 f4
        go_wp2_with fail
        go_roundw
        case rel => exact ⟨k + 1, (J : Int) - 1, by have := HJI.out; omega, by go_num, by go_num, by have := HJI.out; omega, HJN.out⟩
        case measure => simp [intOf]; omega
    · have hlt2 : jv ≤ (k : Int) := by omega
      have HE : Hid (swapTo cs k = cs.reverse) := swapTo_all cs k hk (by omega)
      go_wp2_with fail
      go_end0
      have h1 := HI.out
      rw [HE.out] at h1
      refine ⟨rfl, ?_⟩
      unfold RowC
      rw [List.length_reverse]
      exact (by have h2 := h1; unfold RowC at h2; rw [List.length_reverse] at h2; exact h2)

def invTo (cs : List Chg) (k : Nat) : List Chg := (cs.take k).map swapC ++ cs.drop k
theorem invTo_len (cs : List Chg) (k : Nat) : (invTo cs k).length = cs.length := by
  unfold invTo; rw [List.length_append, List.length_map, List.length_take, List.length_drop]; omega
theorem invTo_at (cs : List Chg) (k : Nat) (h : k < cs.length) : (invTo cs k)[k]'(by rw [invTo_len]; exact h) = cs[k] := by
  unfold invTo
  rw [List.getElem_append_right (by rw [List.length_map, List.length_take]; omega)]
  simp only [List.length_map, List.length_take, List.getElem_drop]
  congr 1; omega
theorem invTo_succ (cs : List Chg) (k : Nat) (h : k < cs.length) : invTo cs (k + 1) = (invTo cs k).set k (swapC cs[k]) := by
  unfold invTo
  rw [List.set_append_right _ _ (by rw [List.length_map, List.length_take]; omega), List.length_map, List.length_take, Nat.min_eq_left (by omega), Nat.sub_self, List.drop_eq_getElem_cons h, List.set_cons_zero, List.take_succ_eq_append_getElem h, List.map_append]
  simp
theorem invTo_all (cs : List Chg) : invTo cs cs.length = cs.map swapC := by unfold invTo; simp
theorem patch_list {α : Type} (P X Q Y : List α) (o n : Nat) (ho : P.length = o) (hx : X.length = n) (hy : Y.length = n) : (P ++ X ++ Q).take o ++ Y ++ (P ++ X ++ Q).drop (o + n) = P ++ Y ++ Q := by
  rw [List.append_assoc P X Q, List.take_left' ho, List.drop_append, List.drop_of_length_le (by omega), List.nil_append, ho, Nat.add_sub_cancel_left, List.drop_left' hx]
/-- two parts of one element written over -/
theorem In.swapParts {G : Nat → Prop} {w0 w : World} {l : List Assn} {g c : Nat} {cs : List Chg} {k : Nat} (h : In G w0 (RowC (.slice (some ⟨g, 0, none⟩) cs.length c) cs :: l) w) (hk : k < cs.length) :
    In G w0 (RowC (.slice (some ⟨g, 0, none⟩) cs.length c) (cs.set k (swapC cs[k])) :: l) (putRow (putRow w g (k * 20 + 2) (fix9 cs[k].now)) g (k * 20 + 11) (fix9 cs[k].old)) ∧
    In G w0 (RowC (.slice (some ⟨g, 0, none⟩) cs.length c) (cs.set k (swapC cs[k])) :: l) (putRow (putRow w g (k * 20 + 11) (fix9 cs[k].old)) g (k * 20 + 2) (fix9 cs[k].now)) := by
  have hle : (k + 1) * 20 ≤ cs.length * 20 := Nat.mul_le_mul_right _ hk
  have e4 : ∀ y, cs.set k y = cs.take k ++ y :: cs.drop (k + 1) := fun y => by rw [List.set_eq_take_append_cons_drop, if_pos hk]
  have hX : cs.flatMap cC = (cs.take k).flatMap cC ++ cC cs[k] ++ (cs.drop (k + 1)).flatMap cC := by
    have h1 := e4 cs[k]
    rw [List.set_getElem_self] at h1
    conv => lhs; rw [h1]
    rw [List.flatMap_append, List.flatMap_cons, List.append_assoc]
  have hP : ((cs.take k).flatMap cC).length = k * 20 := by rw [flat_len cC_len, List.length_take, Nat.min_eq_left (by omega)]
  have hY : (cs.set k (swapC cs[k])).flatMap cC = (cs.take k).flatMap cC ++ cC (swapC cs[k]) ++ (cs.drop (k + 1)).flatMap cC := by
    rw [e4, List.flatMap_append, List.flatMap_cons, List.append_assoc]
  have hset : (cs.set k (swapC cs[k])).length = cs.length := List.length_set
  generalize hx : cs[k] = x at *
  have c1 : cC x = [Value.int .i64 x.at_.1, .int .i64 x.at_.2] ++ (fix9 x.old).map (Value.int .i64) ++ (fix9 x.now).map (Value.int .i64) := by unfold cC cL; simp
  have c2 : cC (swapC x) = [Value.int .i64 x.at_.1, .int .i64 x.at_.2] ++ (fix9 x.now).map (Value.int .i64) ++ (fix9 x.old).map (Value.int .i64) := by unfold cC cL swapC; simp
  have lo : ((fix9 x.old).map (Value.int .i64)).length = 9 := by rw [List.length_map, fix9_len]
  have ln : ((fix9 x.now).map (Value.int .i64)).length = 9 := by rw [List.length_map, fix9_len]
  rw [Nat.add_mul, Nat.one_mul] at hle
  have go : (putRow (putRow w g (k * 20 + 2) (fix9 x.now)) g (k * 20 + 11) (fix9 x.old)).heap.size = w.heap.size := by rw [putRow_size, putRow_size]
  generalize (cs.take k).flatMap cC = P at *
  generalize (cs.drop (k + 1)).flatMap cC = Q at *
  have hS : ([Value.int .i64 x.at_.1, .int .i64 x.at_.2] : List Value).length = 2 := rfl
  generalize ([Value.int .i64 x.at_.1, .int .i64 x.at_.2] : List Value) = S at *
  have key : ∀ (A B : List Value), A.length = 9 → B.length = 9 → P ++ (S ++ A ++ B) ++ Q = (P ++ S) ++ A ++ (B ++ Q) ∧ P ++ (S ++ A ++ B) ++ Q = (P ++ S ++ A) ++ B ++ Q := fun A B _ _ => ⟨by simp, by simp⟩
  have hPS : (P ++ S).length = k * 20 + 2 := by rw [List.length_append, hP, hS]
  constructor
  · have h1 := h.ownPut (o := k * 20 + 2) (ys := fix9 x.now) (by rw [fix9_len]; omega)
    rw [hX, c1, (key _ _ lo ln).1, fix9_len, patch_list _ _ _ _ _ _ hPS lo ln] at h1
    have h2 := h1.ownPut (o := k * 20 + 11) (ys := fix9 x.old) (by rw [fix9_len]; omega)
    rw [show (P ++ S) ++ (fix9 x.now).map (Value.int .i64) ++ ((fix9 x.now).map (Value.int .i64) ++ Q) = (P ++ S ++ (fix9 x.now).map (Value.int .i64)) ++ (fix9 x.now).map (Value.int .i64) ++ Q from by simp, fix9_len, patch_list _ _ _ _ _ _ (by rw [List.length_append, hPS, ln]) ln lo] at h2
    unfold RowC
    rw [hset, hY, c2, (key _ _ ln lo).2]
    exact h2
  · have h1 := h.ownPut (o := k * 20 + 11) (ys := fix9 x.old) (by rw [fix9_len]; omega)
    rw [hX, c1, (key _ _ lo ln).2, fix9_len, patch_list _ _ _ _ _ _ (by rw [List.length_append, hPS, lo]) ln lo] at h1
    have h2 := h1.ownPut (o := k * 20 + 2) (ys := fix9 x.now) (by rw [fix9_len]; omega)
    rw [show (P ++ S ++ (fix9 x.old).map (Value.int .i64)) ++ (fix9 x.old).map (Value.int .i64) ++ Q = (P ++ S) ++ (fix9 x.old).map (Value.int .i64) ++ ((fix9 x.old).map (Value.int .i64) ++ Q) from by simp, fix9_len, patch_list _ _ _ _ _ _ hPS lo ln] at h2
    unfold RowC
    rw [hset, hY, c2, (key _ _ ln lo).1]
    exact h2

theorem row_part {w : World} {g o n : Nat} {xs : List Int} (h : row? w g o n = some (ints xs)) (a m : Nat) (ham : a + m ≤ n) : row? w g (o + a) m = some (ints ((xs.drop a).take m)) := by
  unfold row? at *
  split at h
  · split at h
    · rename_i hle
      injection h with h
      rw [if_pos (by omega)]
      congr 1
      have h2 : (ints xs).extract a (a + m) = ints ((xs.drop a).take m) := by
        unfold ints
        apply Array.ext'
        simp [List.map_drop, List.map_take, List.extract_eq_take_drop]
      rw [← h2, ← h, Array.extract_extract, Nat.min_eq_left (by omega), Nat.add_assoc]
    · cases h
  · cases h
theorem fits_part {w : World} {g o n : Nat} (h : fits w g o n = true) (a m : Nat) (ham : a + m ≤ n) : fits w g (o + a) m = true := by
  unfold fits at *
  split at h
  · rw [decide_eq_true_eq] at h ⊢; omega
  · cases h
theorem fits_put {w : World} {g o n o' : Nat} {ys : List Int} (h : fits w g o n = true) (h' : fits w g o' ys.length = true) : fits (putRow w g o' ys) g o n = true := by
  unfold fits at *
  split at h
  · rename_i cs t hg
    rw [hg] at h'
    simp only [decide_eq_true_eq] at h h'
    simp [putRow, Array.getElem?_modify, hg]
    omega
  · cases h

set_option maxHeartbeats 4000000 in
set_option maxRecDepth 100000 in
theorem invert_any (A : Option Addr) (c : Nat) (cs : List Chg) (w : World) (h : ChgsIn w w.heap.size A cs) (hA : (A = none ∧ cs.length = 0 ∧ c = 0) ∨ ∃ ad, A = some ad) (hl : cs.length ≤ 879609302195) :
    Calls Tryz.prog 22 #[.slice A cs.length c] w fun e w' => ∃ v, e = .returned v ∧ In (fun _ => False) w [RowC v (invD cs)] w' := by
  have HC : Hid (Reads w w.heap.size 20 A cs.length (cs.flatMap cC)) := by
    have := chunks_reads (by decide) h
    rw [List.length_map, List.flatMap_map] at this
    exact this
  have H1 : Hid (∀ u ∈ cs.flatMap cC, u.oneCell' = true) := fun u hu => by
    obtain ⟨x, _, hx⟩ := List.mem_flatMap.1 hu
    obtain ⟨y, _, rfl⟩ := List.mem_map.1 hx
    rfl
  have HL := Lib.hid hl
  have HA := Lib.hid hA
  clear h hl hA
  go_enter Tryz.func22, Tryz.ntmps22
  go_wp2_with fail
  refine (cloneChange_any A cs.length c (cs.flatMap cC) w w.heap.size HC.out H1.out HA.out HL.out).mono ?_
  rintro e w1 ⟨v, rfl, ho, hb⟩
  have HI1 : Hid (In (fun _ => False) w [RowC v cs] w1) := (In.nil w _).new (A := RowC v cs) hb ⟨own_base ho, fun k hk => (World.ownsRow.lt ho k hk).1⟩
  clear ho hb HC H1
  go_wp2_with fail
  refine (reverseD_in HI1.out).mono ?_
  rintro e w2 ⟨rfl, hI2⟩
  have HLR : Hid (cs.reverse.length ≤ 879609302195) := by rw [Hid, List.length_reverse]; exact HL.out
  have HV : Hid (invD cs = cs.reverse.map swapC) := rfl
  clear HI1
  generalize cs.reverse = ds at *
  obtain ⟨A2, c2, rfl, hc1, hc2, hA2⟩ := own_form hI2.rowAt
  have HI2 := Lib.hid hI2
  have HA2 := Lib.hid hA2
  have hl2 : (ds.length : Int) ≤ 879609302195 := by have := HLR.out; omega
  clear hI2 hA2 hc1 hc2
  go_wp2_with fail
  go_loopw [11] (fun i w' => ∃ k : Nat, k ≤ ds.length ∧ i = .int .i64 k ∧ In (fun _ => False) w [RowC (.slice A2 ds.length c2) (invTo ds k)] w') (fun i _ => ds.length - (intOf i).toNat)
  case atStart => exact ⟨0, by omega, rfl, HI2.out⟩
  case round =>
    clear HI2
    obtain ⟨k, hk, rfl, hI⟩ := hrel
    have HI := Lib.hid hI
    clear hI
    by_cases hlt : k < ds.length
    · have hki : (k : Int) < ds.length := by omega
      obtain ⟨g, rfl⟩ := HA2.out (by omega)
      have HST := Lib.hid (invTo_succ ds k hlt)
      have hat := invTo_at ds k hlt
      have hlen := invTo_len ds k
      have hI2 : In (fun _ => False) w [RowC (.slice (some ⟨g, 0, none⟩) (invTo ds k).length c2) (invTo ds k)] wr := by rw [hlen]; exact HI.out
      obtain ⟨hs1, hs2⟩ := hI2.swapParts (k := k) (by omega)
      have hr := hI2.chg (k := k) (by omega)
      have hf := hI2.fitC (k := k) (by omega)
      rw [hat] at hs1 hs2 hr
      rw [hlen, ← HST.out] at hs1 hs2
      have q1 : row? wr g (k * 20 + 2) 9 = some (ints (fix9 ds[k].old)) := by
        rw [row_part hr 2 9 (by omega)]
        unfold cL
        simp only [List.drop_succ_cons, List.drop_zero]
        rw [List.take_left' (fix9_len _)]
      have q2 : row? wr g (k * 20 + 11) 9 = some (ints (fix9 ds[k].now)) := by
        rw [row_part hr 11 9 (by omega)]
        unfold cL
        simp only [List.drop_succ_cons]
        rw [List.drop_left' (fix9_len _), List.take_of_length_le (by rw [fix9_len]; omega)]
      have f1 := fits_part hf 2 9 (by omega)
      have f2 := fits_part hf 11 9 (by omega)
      have l1 := fix9_len ds[k].old
      have l2 := fix9_len ds[k].now
      generalize fix9 ds[k].old = xs at *
      generalize fix9 ds[k].now = ys at *
      have f3 : fits (putRow wr g (k * 20 + 2) ys) g (k * 20 + 11) 9 = true := fits_put f2 (by rw [l2]; exact f1)
      have f4 : fits (putRow wr g (k * 20 + 11) xs) g (k * 20 + 2) 9 = true := fits_put f1 (by rw [l1]; exact f2)
      have HS1 := Lib.hid hs1
      have HS2 := Lib.hid hs2
      clear hs1 hs2 hr hf hI2 hat hlen HST HI
      go_upto_region 6 with (fail)
      go_region
      all_goals
        (first
          | (have HJN : Hid (In (fun _ => False) w [RowC (.slice (some ⟨g, 0, none⟩) ds.length c2) (invTo ds (k + 1))] (putRow (putRow wr g (k * 20 + 2) ys) g (k * 20 + 11) xs).drew) := HS1.out.drew
             obtain ⟨W9, hW9⟩ : ∃ W9, (putRow (putRow wr g (k * 20 + 2) ys) g (k * 20 + 11) xs).drew = W9 := ⟨_, rfl⟩
             rw [hW9]
             rw [hW9] at HJN)
          | (have HJN : Hid (In (fun _ => False) w [RowC (.slice (some ⟨g, 0, none⟩) ds.length c2) (invTo ds (k + 1))] (putRow (putRow wr g (k * 20 + 11) xs) g (k * 20 + 2) ys).drew) := HS2.out.drew
             obtain ⟨W9, hW9⟩ : ∃ W9, (putRow (putRow wr g (k * 20 + 11) xs) g (k * 20 + 2) ys).drew = W9 := ⟨_, rfl⟩
             rw [hW9]
             rw [hW9] at HJN))
        clear hW9 q1 q2 f1 f2 f3 f4
        go_wp2_with fail
        go_roundw
        case rel => exact ⟨k + 1, by omega, by go_num, HJN.out⟩
        case measure => simp [intOf]; omega
    · have hki : (ds.length : Int) ≤ k := by omega
      have HE : Hid (invTo ds k = invD cs) := by
        have : k = ds.length := by omega
        rw [Hid, HV.out, this, invTo_all]
      go_wp2_with fail
      go_ret
      refine ⟨_, rfl, ?_⟩
      have h1 := HI.out
      have h2 : (invD cs).length = ds.length := by rw [HV.out, List.length_map]
      rw [HE.out] at h1
      unfold RowC
      rw [h2]
      have h3 := h1
      unfold RowC at h3
      rw [h2] at h3
      exact h3

end Go.Proofs.YtjggdpnamakoeaaGreat

/-
  Between, Apply, Invert and Eq among other things in memory; the closed fact 'differed'.
-/
namespace Go.Proofs.YtjggdpnamakoeaaGreat
open Go.RowKit

/-- rows as an argument, at the start and behind whatever made memory alone -/
structure RowsArg (w : World) (A : Option Addr) (a : List RowD) : Prop where
  reads : RowsIn w w.heap.size A a
  ok : ∀ r ∈ a, RowOk r
  len : a.length ≤ maxLen
structure ChgsArg (w : World) (A : Option Addr) (a : List Chg) : Prop where
  reads : ChgsIn w w.heap.size A a
  ok : ∀ r ∈ a, ChgOk r
  len : a.length ≤ maxLen
theorem RowsArg.after {w w' : World} {A : Option Addr} {a : List RowD} (h : RowsArg w A a) (hb : Below w.heap.size w w') : RowsArg w' A a := ⟨(Chunks.below h.reads hb).more hb.size, h.ok, h.len⟩
theorem ChgsArg.after {w w' : World} {A : Option Addr} {a : List Chg} (h : ChgsArg w A a) (hb : Below w.heap.size w w') : ChgsArg w' A a := ⟨(Chunks.below h.reads hb).more hb.size, h.ok, h.len⟩
theorem betweenR_ok2 {a b : List RowD} (ha : ∀ r ∈ a, RowOk r) (hb : ∀ r ∈ b, RowOk r) : ∀ c ∈ (betweenR a b).1, ChgOk c := by
  unfold betweenR
  split
  · intro c hc
    obtain ⟨h1, _, _⟩ := mem_between hc
    rw [h1]
    exact ⟨dget_len ha _, dget_len hb _⟩
  · intro c hc; simp at hc
theorem betweenR_len {a b : List RowD} : (betweenR a b).1.length ≤ 120 := by
  unfold betweenR
  split
  · rename_i h
    rw [Bool.and_eq_true] at h
    exact between_120 h.1 h.2
  · simp
theorem mayD_len {a : List RowD} (h : mayD a = true) : a.length ≤ 60 := (mayD_rows h).2.2
theorem applyStep_rows {m m' : List RowD} {c : Chg} (hm : ∀ r ∈ m, RowOk r) (hc : ChgOk c) (h : applyStep m c = .ok m') : ∀ r ∈ m', RowOk r := by
  unfold applyStep at h
  split at h
  · cases h
  · split at h
    · cases h
    · split at h
      · cases h; exact fun r hr => hm r (mem_mdel.1 hr).1
      · cases h; exact mput_rows hm hc.2
theorem applyL_rows : ∀ {cs : List Chg} {m m' : List RowD}, (∀ r ∈ m, RowOk r) → (∀ c ∈ cs, ChgOk c) → applyL m cs = .ok m' → ∀ r ∈ m', RowOk r
  | [], m, m', hm, _, h => by cases h; exact hm
  | c :: cs, m, m', hm, hc, h => by
    unfold applyL at h
    split at h
    · cases h
    · rename_i m1 h1
      exact applyL_rows (applyStep_rows hm (hc c (by simp)) h1) (fun d hd => hc d (by simp [hd])) h
theorem rowsOf_ok {m : List RowD} (hm : ∀ r ∈ m, RowOk r) : ∀ r ∈ rowsOf m, RowOk r := fun r hr => by
  obtain ⟨x, _, rfl⟩ := List.mem_map.1 hr
  exact rowFor_ok hm x
theorem applyR_ok2 {l : List RowD} {cs : List Chg} (hl : ∀ r ∈ l, RowOk r) (hc : ∀ c ∈ cs, ChgOk c) : ∀ r ∈ (applyR l cs).1, RowOk r := by
  unfold applyR
  split
  · simp
  · split
    · simp
    · split
      · simp
      · rename_i m hm
        split
        · exact rowsOf_ok (applyL_rows hl hc hm)
        · simp
theorem applyR_len {l : List RowD} {cs : List Chg} : (applyR l cs).1.length ≤ 60 := by
  unfold applyR
  split
  · simp
  · split
    · simp
    · split
      · simp
      · split
        · rename_i h; exact mayD_len h
        · simp
theorem invD_ok {cs : List Chg} (h : ∀ c ∈ cs, ChgOk c) : ∀ c ∈ invD cs, ChgOk c := fun c hc => by
  unfold invD at hc
  obtain ⟨d, hd, rfl⟩ := List.mem_map.1 hc
  have := h d (List.mem_reverse.1 hd)
  exact ⟨this.2, this.1⟩

section
variable {G : Nat → Prop} {w0 w : World} {l : List Assn} {v u : Value}
theorem In.rowsArg {rs : List RowD} (h : In G w0 (RowR v rs :: l) w) (hok : ∀ r ∈ rs, RowOk r) : ∃ A c, v = .slice A rs.length c ∧ RowsArg w A rs := by
  obtain ⟨A, c, rfl, h1, h2, h3⟩ := RowsIn.own h.rowAt
  exact ⟨A, c, rfl, h3, hok, by omega⟩
theorem In.chgsArg {cs : List Chg} (h : In G w0 (RowC v cs :: l) w) (hok : ∀ r ∈ cs, ChgOk r) : ∃ A c, v = .slice A cs.length c ∧ ChgsArg w A cs ∧ ((A = none ∧ cs.length = 0 ∧ c = 0) ∨ ∃ ad, A = some ad) := by
  obtain ⟨A, c, rfl, h1, h2, h3, h4⟩ := own_chunks (f := cL) (fun _ => rfl) cL_len h.rowAt
  refine ⟨A, c, rfl, ⟨h3, hok, by omega⟩, ?_⟩
  cases A with
  | some ad => exact Or.inr ⟨ad, rfl⟩
  | none =>
    left
    refine ⟨rfl, ?_⟩
    rcases h.rowAt.2 with h | ⟨g, cap, cur, e, _⟩
    · injection h.1 with e1 e2 e3
      exact ⟨e2, e3⟩
    · cases e
theorem eqRows_any {A A' : Option Addr} (c c' : Nat) {a b : List RowD} (ha : RowsArg w A a) (hb : RowsArg w A' b) : Calls Tryz.prog 16 #[.slice A a.length c, .slice A' b.length c'] w fun e w' => e = .returned (.bool (decide (a = b))) ∧ Below w.heap.size w w' := by
  have := eqRow_any A A' c c' (a.map rL) (b.map rL) w ha.reads hb.reads (by rw [List.length_map]; exact ha.len) (by rw [List.length_map]; exact hb.len)
  have hd : sameRows (a.map rL) (b.map rL) = decide (a = b) := by
    unfold sameRows
    rw [Bool.eq_iff_iff, decide_eq_true_eq, decide_eq_true_eq]
    constructor
    · intro h
      have h1 := ha.ok
      have h2 := hb.ok
      clear this ha hb
      induction a generalizing b with
      | nil => cases b with
        | nil => rfl
        | cons _ _ => simp at h
      | cons x a ih => cases b with
        | nil => simp at h
        | cons y b =>
          rw [List.map_cons, List.map_cons] at h
          injection h with e1 e2
          rw [rL_inj (h1 x (by simp)) (h2 y (by simp)) e1, ih e2 (fun r hr => h1 r (by simp [hr])) (fun r hr => h2 r (by simp [hr]))]
    · rintro rfl; rfl
  rw [List.length_map, List.length_map, hd] at this
  exact this
theorem eqChgs_any {A A' : Option Addr} (c c' : Nat) {a b : List Chg} (ha : ChgsArg w A a) (hb : ChgsArg w A' b) (e : a = b) : Calls Tryz.prog 23 #[.slice A a.length c, .slice A' b.length c'] w fun e w' => e = .returned (.bool true) ∧ Below w.heap.size w w' := by
  have := eqChange_any A A' c c' (a.map cL) (b.map cL) w ha.reads hb.reads (by rw [List.length_map]; exact ha.len) (by rw [List.length_map]; exact hb.len)
  have hd : sameRows (a.map cL) (b.map cL) = true := by
    unfold sameRows
    rw [e]; simp
  rw [List.length_map, List.length_map, hd] at this
  exact this
theorem between_in {A A' : Option Addr} (c c' : Nat) {a b : List RowD} (h : In G w0 l w) (ha : RowsArg w A a) (hb : RowsArg w A' b) :
    Calls Tryz.prog 41 #[.slice A a.length c, .slice A' b.length c'] w fun e w' => ∃ v, e = .returned (.tuple #[v, .int .i64 (betweenR a b).2]) ∧ In G w0 (RowC v (betweenR a b).1 :: l) w' ∧ Below w.heap.size w w' := by
  refine (between_any A A' c c' a b w ha.reads hb.reads ha.ok hb.ok ha.len hb.len).mono ?_
  rintro e w' ⟨v, rfl, hI⟩
  exact ⟨v, rfl, h.new (A := RowC v (betweenR a b).1) hI.below0 hI.fresh, hI.below0⟩
theorem invert_in {A : Option Addr} (c : Nat) {cs : List Chg} (h : In G w0 l w) (ha : ChgsArg w A cs) (hA : (A = none ∧ cs.length = 0 ∧ c = 0) ∨ ∃ ad, A = some ad) (hl : cs.length ≤ 879609302195) :
    Calls Tryz.prog 22 #[.slice A cs.length c] w fun e w' => ∃ v, e = .returned v ∧ In G w0 (RowC v (invD cs) :: l) w' ∧ Below w.heap.size w w' := by
  refine (invert_any A c cs w ha.reads hA hl).mono ?_
  rintro e w' ⟨v, rfl, hI⟩
  exact ⟨v, rfl, h.new (A := RowC v (invD cs)) hI.below0 hI.fresh, hI.below0⟩
end

theorem dif1 : betweenR [((0, 0), zeroB)] [] = ([⟨(0, 0), zeroB, noneB⟩], 0) := by
  have h1 : mayD [((0, 0), zeroB)] = true := by decide
  have h2 : mayD ([] : List RowD) = true := by decide
  have h3 : sortedKeys (allOf [((0, 0), zeroB)] []) = [(0, 0)] := by
    unfold sortedKeys allOf mkeys
    simp
  unfold betweenR between
  rw [h1, h2, h3]
  rfl
set_option maxHeartbeats 1000000 in
set_option maxRecDepth 100000 in
theorem differed_any (w : World) : Calls Tryz.prog 20 #[] w fun e w' => e = .returned (.bool true) ∧ Below w.heap.size w w' := by
  have HI0 : Hid (In (fun _ => False) w [RowR (.slice (some ⟨w.heap.size, 0, none⟩) 1 1) [((0, 0), zeroB)]] (w.alloc (.cells (rC ((0, 0), zeroB)).toArray 49))) := (In.nil w _).newLit 49 11 1 (rC ((0, 0), zeroB)) rfl (by decide)
  go_enter Tryz.func20, Tryz.ntmps20
  go_wp2_with fail
  have hI0 : In (fun _ => False) w [RowR (.slice (some ⟨w.heap.size, 0, none⟩) 1 1) [((0, 0), zeroB)]] (w.alloc (.cells (ints [0, 0, 0, 0, 0, 0, 0, 0, 0, 0, 0]) 49)) := HI0.out
  clear HI0
  generalize (w.alloc (.cells (ints [0, 0, 0, 0, 0, 0, 0, 0, 0, 0, 0]) 49)) = w1 at *
  generalize w.heap.size = g0 at *
  obtain ⟨A1, c1, e1, ha⟩ := hI0.rowsArg (by intro r hr; rw [List.mem_singleton.1 hr]; rfl)
  injection e1 with e1 e2 e3
  subst e1
  clear e2 e3
  have hb : RowsArg w1 none [] := ⟨⟨by simp, by simp⟩, by simp, by simp⟩
  refine (between_in 1 0 hI0 ha hb).mono ?_
  rintro e w2 ⟨v, rfl, hI2, _⟩
  rw [dif1] at hI2
  rw [dif1]
  simp only at hI2 ⊢
  obtain ⟨A2, c2, rfl, hc, _⟩ := hI2.chgsArg (by intro r hr; rw [List.mem_singleton.1 hr]; exact ⟨rfl, rfl⟩)
  have HI2 := Lib.hid hI2
  clear ha hb hI0 hI2 hc
  have hbc : ∀ W, (rowBuild 64 #[(2, .agg #[.int .i64 (-1), .int .i64 0, .int .i64 0, .int .i64 0, .int .i64 0, .int .i64 0, .int .i64 0, .int .i64 0, .int .i64 0])]).run Tryz.prog W = .ok (.agg (ints [0, 0, 0, 0, 0, 0, 0, 0, 0, 0, 0, -1, 0, 0, 0, 0, 0, 0, 0, 0])) W := fun W => by kernel_rfl
  have HI3 : Hid (In (fun _ => False) w [RowC (.slice (some ⟨w2.heap.size, 0, none⟩) 1 1) [⟨(0, 0), zeroB, noneB⟩], RowC (.slice A2 1 c2) [⟨(0, 0), zeroB, noneB⟩], RowR (.slice (some ⟨g0, 0, none⟩) 1 1) [((0, 0), zeroB)]] (w2.alloc (.cells (ints [0, 0, 0, 0, 0, 0, 0, 0, 0, 0, 0, -1, 0, 0, 0, 0, 0, 0, 0, 0]) 64))) := HI2.out.newLit 64 20 1 (cC ⟨(0, 0), zeroB, noneB⟩) rfl (by decide)
  have HB0 := Lib.hid HI3.out.below0
  obtain ⟨A3, c3, e3, h3, _⟩ := HI3.out.chgsArg (by intro r hr; rw [List.mem_singleton.1 hr]; exact ⟨rfl, rfl⟩)
  obtain ⟨A4, c4, e4, h4, _⟩ := HI3.out.swap.chgsArg (by intro r hr; rw [List.mem_singleton.1 hr]; exact ⟨rfl, rfl⟩)
  injection e3 with e31 e32 e33
  injection e4 with e41 e42 e43
  subst e31; subst e41
  have HE := Lib.hid (eqChgs_any c2 1 h4 h3 rfl)
  clear e32 e33 e42 e43 h3 h4
  go_wp2_with fail
  refine HE.out.mono ?_
  rintro e w5 ⟨rfl, hb5⟩
  have HB5 := Lib.hid (HB0.out.trans (hb5.mono HB0.out.size))
  clear hb5 HE
  go_wp2_with fail
  go_ret
  exact ⟨rfl, HB5.out⟩

end Go.Proofs.YtjggdpnamakoeaaGreat
