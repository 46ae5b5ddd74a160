/-
  Several texts in one (merged by a program of mine): DiffInvert, DiffUse, DiffLaws, DiffLeast.
-/
import Derived.Test.YtpgdobomcdpdbaaDPack39
import Derived.BigRegion
/-
  The contracts of slices.Reverse at changes and of diff.Invert.
-/
namespace Go.Proofs.Ytpgdobomcdpdbaa
open Go.RowKit

/-- some cells of an own slice written over -/
theorem own_putAt {w : World} {B : Nat} {e : TypeId} {size n c g o : Nat} {xs : List Value} {ys : List Int} (h : w.ownsRow B e size (.slice (some ⟨g, 0, none⟩) n c) n xs) (ho : o + ys.length ≤ n * size) :
    (putRow w g o ys).ownsRow B e size (.slice (some ⟨g, 0, none⟩) n c) n (xs.take o ++ ys.map (Value.int .i64) ++ xs.drop (o + ys.length)) := by
  obtain ⟨h1, h2⟩ := h
  have hxl : (xs.take o).length = o := by rw [List.length_take]; omega
  refine ⟨by rw [List.length_append, List.length_append, hxl, List.length_map, List.length_drop]; omega, ?_⟩
  rcases h2 with ⟨e1, h0⟩ | ⟨g', cap, cur, e1, hb, hg, h3, h4, h5, h6⟩
  · cases e1
  · injection e1 with e1 e2 e3
    injection e1 with e1
    injection e1 with e1
    subst e1; subst e3
    have hle2 : n * size ≤ c * size := Nat.mul_le_mul_right _ h3
    refine Or.inr ⟨g, c, (cur.toList.take o ++ ys.map (Value.int .i64) ++ cur.toList.drop (o + ys.length)).toArray, rfl, hb, ?_, h3, h4, ?_, ?_⟩
    · simp [putRow, Array.getElem?_modify, hg]
    · simp; omega
    · rw [List.toList_toArray, ← h6]
      have hl1 : (cur.toList.take o).length = o := by rw [List.length_take]; simp; omega
      have hl2 : ((cur.toList.take (n * size)).take o) = cur.toList.take o := by rw [List.take_take, Nat.min_eq_left (by omega)]
      rw [hl2, List.drop_take]
      generalize cur.toList.take o = P at hl1 ⊢
      have hl3 : (P ++ ys.map (Value.int .i64)).length = o + ys.length := by rw [List.length_append, hl1, List.length_map]
      rw [List.take_append, hl3, List.take_of_length_le (by rw [hl3]; exact ho)]
theorem chunks_reads {w : World} {B size : Nat} {A : Option Addr} {rs : List (List Int)} (hs : 0 < size) (h : Chunks w B size A rs) : Reads w B size A rs.length (rs.flatMap fun r => r.map (Value.int .i64)) := by
  obtain ⟨h1, h2⟩ := h
  have hf : ∀ r ∈ rs, (r.map (Value.int .i64)).length = size := fun r hr => by rw [List.length_map, h1 r hr]
  have hl : (rs.flatMap fun r => r.map (Value.int .i64)).length = rs.length * size := by
    clear h2 h1
    induction rs with
    | nil => simp
    | cons r rs ih => rw [List.flatMap_cons, List.length_append, hf r (by simp), ih (fun r hr => hf r (by simp [hr])), List.length_cons, Nat.add_mul]; omega
  refine ⟨hl, fun h0 => ?_⟩
  obtain ⟨b, o, e, hb, hr⟩ := h2 h0
  refine ⟨b, o, e, hb, fun j u hu => ?_⟩
  have hj := (List.getElem?_eq_some_iff.1 hu).1
  have hk : j / size < rs.length := (Nat.div_lt_iff_lt_mul hs).2 (by omega)
  have hm := Nat.mod_lt j hs
  have hdj : j = j / size * size + j % size := by rw [Nat.mul_comm]; exact (Nat.div_add_mod j size).symm
  have hrow := hr (j / size) _ (List.getElem?_eq_getElem hk)
  have hget : ∀ (l : List (List Int)) (k i : Nat) (hk : k < l.length), (∀ r ∈ l, (r.map (Value.int .i64)).length = size) → i < size → (l.flatMap fun r => r.map (Value.int .i64))[k * size + i]? = (l[k].map (Value.int .i64))[i]? := by
    intro l
    induction l with
    | nil => intro k i hk; simp at hk
    | cons a l ih =>
      intro k i hk hfl hi
      rw [List.flatMap_cons]
      cases k with
      | zero => rw [Nat.zero_mul, Nat.zero_add, List.getElem?_append_left (by rw [hfl a (by simp)]; exact hi)]; rfl
      | succ k =>
        rw [List.getElem?_append_right (by rw [hfl a (by simp), Nat.add_mul]; omega), hfl a (by simp), show (k + 1) * size + i - size = k * size + i from by rw [Nat.add_mul]; omega]
        exact ih k i (by simpa using hk) (fun r hr => hfl r (by simp [hr])) hi
  rw [hdj, hget rs _ _ hk hf hm] at hu
  unfold row? at hrow
  split at hrow
  · rename_i cs t fr hg
    split at hrow
    · rename_i hle
      injection hrow with hrow
      rw [cell_of_row w b _ cs t fr hg]
      have h3 : (cs.extract (o + j / size * size) (o + j / size * size + size))[j % size]? = some u := by
        rw [hrow]; unfold ints; simpa using hu
      rw [Array.getElem?_extract] at h3
      split at h3
      · rw [show o + j = o + j / size * size + j % size from by omega]; exact h3
      · cases h3
    · cases hrow
  · cases hrow

/-- k swaps done -/
def swapTo (cs : List Chg) : Nat → List Chg
  | 0 => cs
  | k + 1 => ((swapTo cs k).set k ((swapTo cs k).getD (cs.length - 1 - k) ⟨(0, 0), [], []⟩)).set (cs.length - 1 - k) ((swapTo cs k).getD k ⟨(0, 0), [], []⟩)
theorem swapTo_len (cs : List Chg) (k : Nat) : (swapTo cs k).length = cs.length := by
  induction k with
  | zero => rfl
  | succ k ih => unfold swapTo; rw [List.length_set, List.length_set, ih]
theorem swapTo_get (cs : List Chg) : ∀ (k : Nat), 2 * k ≤ cs.length → ∀ p, p < cs.length → (swapTo cs k)[p]? = if p < k ∨ cs.length - 1 - k < p then cs[cs.length - 1 - p]? else cs[p]?
  | 0, _, p, hp => by rw [if_neg (by omega)]; rfl
  | k + 1, hk, p, hp => by
    have ih := swapTo_get cs k (by omega)
    have hl := swapTo_len cs k
    unfold swapTo
    have g1 : ∀ q, q < cs.length → (swapTo cs k)[q]? = some ((swapTo cs k).getD q ⟨(0, 0), [], []⟩) := fun q hq => by
      rw [List.getD_eq_getElem?_getD, List.getElem?_eq_getElem (by omega)]; rfl
    rw [List.getElem?_set, List.length_set, hl, List.getElem?_set, hl]
    by_cases e1 : cs.length - 1 - k = p
    · rw [if_pos e1, if_pos (by omega), ← g1 k (by omega), ih k (by omega), if_neg (by omega), if_pos (by omega)]
      congr 1; omega
    · rw [if_neg e1]
      by_cases e2 : k = p
      · rw [if_pos e2, if_pos (by omega), ← g1 _ (by omega), ih _ (by omega), if_neg (by omega), if_pos (by omega)]
        congr 1; omega
      · rw [if_neg e2, ih p hp]
        by_cases e3 : p < k ∨ cs.length - 1 - k < p
        · rw [if_pos e3, if_pos (by omega)]
        · rw [if_neg e3, if_neg (by omega)]
theorem swapTo_all (cs : List Chg) (k : Nat) (h1 : 2 * k ≤ cs.length) (h2 : cs.length ≤ 2 * k + 1) : swapTo cs k = cs.reverse := by
  apply List.ext_getElem?
  intro p
  by_cases hp : p < cs.length
  · rw [swapTo_get cs k h1 p hp, List.getElem?_reverse hp]
    split
    · rfl
    · congr 1; omega
  · rw [List.getElem?_eq_none (by rw [swapTo_len]; omega), List.getElem?_eq_none (by rw [List.length_reverse]; omega)]

section
variable {G : Nat → Prop} {w0 w : World} {l : List Assn} {g c : Nat}
theorem In.ownPut {E : TypeId} {size n o : Nat} {xs : List Value} {ys : List Int} (h : In G w0 (RowA E size (.slice (some ⟨g, 0, none⟩) n c) n xs :: l) w) (ho : o + ys.length ≤ n * size) :
    In G w0 (RowA E size (.slice (some ⟨g, 0, none⟩) n c) n (xs.take o ++ ys.map (Value.int .i64) ++ xs.drop (o + ys.length)) :: l) (putRow w g o ys) := by
  obtain ⟨F1, ⟨h1, h2⟩, _, hb⟩ := h.open_
  exact hb (A' := RowA E size (.slice (some ⟨g, 0, none⟩) n c) n _) ⟨own_putAt h1 ho, fun k hk => Or.inl (h2 k hk)⟩ ((Only.putRow w g o ys).mono fun k _ e => h2 k (by rw [e]; rfl))
theorem In.setC {cs : List Chg} {k : Nat} (h : In G w0 (RowC (.slice (some ⟨g, 0, none⟩) cs.length c) cs :: l) w) (hk : k < cs.length) (x : Chg) :
    In G w0 (RowC (.slice (some ⟨g, 0, none⟩) cs.length c) (cs.set k x) :: l) (putRow w g (k * 20) (cL x)) := by
  obtain ⟨F1, ⟨h1, h2⟩, _, hb⟩ := h.open_
  have h3 := own_put (enc := cL) cL_len h1 hk x
  have hA : (RowA 72 20 (.slice (some ⟨g, 0, none⟩) cs.length c) cs.length ((cs.set k x).flatMap cC)).at_ (putRow w g (k * 20) (cL x)) (Plus F1 w (putRow w g (k * 20) (cL x))) := ⟨h3, fun k hk => Or.inl (h2 k hk)⟩
  have h4 := hb hA ((Only.putRow w g (k * 20) (cL x)).mono fun k _ e => h2 k (by rw [e]; rfl))
  unfold RowC
  rw [List.length_set]
  exact h4
theorem In.chg {cs : List Chg} {k : Nat} (h : In G w0 (RowC (.slice (some ⟨g, 0, none⟩) cs.length c) cs :: l) w) (hk : k < cs.length) : row? w g (k * 20) 20 = some (ints (cL cs[k])) := by
  have h1 := own_row h.rowAt hk
  rw [flat_at cC_len cs k hk] at h1
  exact h1
theorem In.fitC {cs : List Chg} {k : Nat} (h : In G w0 (RowC (.slice (some ⟨g, 0, none⟩) cs.length c) cs :: l) w) (hk : k < cs.length) : fits w g (k * 20) 20 = true := own_fits h.rowAt hk
end

set_option maxHeartbeats 4000000 in
set_option maxRecDepth 100000 in
theorem reverse_in {G : Nat → Prop} {w0 w : World} {l : List Assn} {v : Value} {cs : List Chg} (h : In G w0 (RowC v cs :: l) w) :
    Calls Try.prog 70 #[v] w fun e w' => e = .returned (.tuple #[]) ∧ In G w0 (RowC v cs.reverse :: l) w' := by
  obtain ⟨A, c, rfl, hc1, hc2, hA⟩ := own_form h.rowAt
  have HI0 := Lib.hid h
  have hn : (cs.length : Int) ≤ 9223372036854775807 := by unfold maxLen at hc2; omega
  have HA := Lib.hid hA
  clear h hA hc1 hc2
  have hsub : IntKind.i64.wrap ((cs.length : Int) - 1) = (cs.length : Int) - 1 := IntWalk.i64_in _ (by omega)
  go_enter Try.func70, Try.ntmps70
  go_wp2_with fail
  go_loopw [2, 3] (fun i j w' => ∃ (k : Nat) (jv : Int), 2 * k ≤ cs.length ∧ i = .int .i64 k ∧ j = .int .i64 jv ∧ jv = (cs.length : Int) - 1 - k ∧ In G w0 (RowC (.slice A cs.length c) (swapTo cs k) :: l) w') (fun i _ _ => cs.length - (intOf i).toNat)
  case atStart => exact ⟨0, _, by omega, rfl, rfl, by omega, HI0.out⟩
  case round =>
    clear HI0 hsub
    obtain ⟨k, jv, hk, rfl, rfl, hj, hI⟩ := hrel
    have HI := Lib.hid hI
    clear hI
    by_cases hlt : (k : Int) < jv
    · obtain ⟨J, rfl⟩ : ∃ J : Nat, jv = J := ⟨jv.toNat, by omega⟩
      obtain ⟨g, rfl⟩ := HA.out (by omega)
      have HJ : Hid (cs.length - 1 - k = J) := by unfold Hid; omega
      have HL := Lib.hid (swapTo_len cs k)
      have hkn : (k : Int) < cs.length := by omega
      have hJn : (J : Int) < cs.length := by omega
      have hI := HI.out
      have hst : swapTo cs (k + 1) = ((swapTo cs k).set k ((swapTo cs k).getD (cs.length - 1 - k) ⟨(0, 0), [], []⟩)).set (cs.length - 1 - k) ((swapTo cs k).getD k ⟨(0, 0), [], []⟩) := rfl
      rw [HJ.out] at hst
      have HST := Lib.hid hst
      clear hst
      generalize swapTo cs k = ds at *
      have hI2 : In G w0 (RowC (.slice (some ⟨g, 0, none⟩) ds.length c) ds :: l) wr := by rw [HL.out]; exact hI
      have hkd : k < ds.length := by have := HL.out; omega
      have hJd : J < ds.length := by have := HL.out; omega
      have r1 := hI2.chg hkd
      have r2 := hI2.chg hJd
      have f1 := hI2.fitC hkd
      have f2 := hI2.fitC hJd
      rw [List.getD_eq_getElem?_getD, List.getElem?_eq_getElem hJd, List.getD_eq_getElem?_getD, List.getElem?_eq_getElem hkd] at HST
      simp only [Option.getD_some] at HST
      generalize hx : ds[k] = x at *
      generalize hy : ds[J] = y at *
      have HI3 := Lib.hid (hI2.setC hkd y)
      have hl3 : (ds.set k y).length = ds.length := List.length_set
      have hI3b : In G w0 (RowC (.slice (some ⟨g, 0, none⟩) (ds.set k y).length c) (ds.set k y) :: l) (putRow wr g (k * 20) (cL y)) := by rw [hl3]; exact HI3.out
      have f3 := hI3b.fitC (k := J) (by rw [hl3]; exact hJd)
      have HI4 : Hid (In G w0 (RowC (.slice (some ⟨g, 0, none⟩) cs.length c) (swapTo cs (k + 1)) :: l) (putRow (putRow wr g (k * 20) (cL y)) g (J * 20) (cL x))) := by
        rw [HST.out]
        have := hI3b.setC (k := J) (by rw [hl3]; exact hJd) x
        rw [hl3, HL.out] at this
        exact this
      have hI5 := hI2.setC hJd x
      have hl5 : (ds.set J x).length = ds.length := List.length_set
      have hI5b : In G w0 (RowC (.slice (some ⟨g, 0, none⟩) (ds.set J x).length c) (ds.set J x) :: l) (putRow wr g (J * 20) (cL x)) := by rw [hl5]; exact hI5
      have f4 := hI5b.fitC (k := k) (by rw [hl5]; exact hkd)
      have HI6 : Hid (In G w0 (RowC (.slice (some ⟨g, 0, none⟩) cs.length c) (swapTo cs (k + 1)) :: l) (putRow (putRow wr g (J * 20) (cL x)) g (k * 20) (cL y))) := by
        rw [HST.out, List.set_comm _ _ (by omega)]
        have := hI5b.setC (k := k) (by rw [hl5]; exact hkd) y
        rw [hl5, HL.out] at this
        exact this
      have lx := cL_len x
      have ly := cL_len y
      generalize cL x = xs at *
      generalize cL y = ys at *
      have HJI := Lib.hid hj
      clear hj hI hI2 hI3b hI5 hI5b hx hy hl3 hl5 HI3 HST HI hkd hJd
      go_upto_region 3 with (fail)
      go_region
      all_goals
        (first
          | (have HJN : Hid (In G w0 (RowC (.slice (some ⟨g, 0, none⟩) cs.length c) (swapTo cs (k + 1)) :: l) (putRow (putRow wr g (k * 20) ys) g (J * 20) xs).drew) := HI4.out.drew
             obtain ⟨W9, hW9⟩ : ∃ W9, (putRow (putRow wr g (k * 20) ys) g (J * 20) xs).drew = W9 := ⟨_, rfl⟩
             rw [hW9]
             rw [hW9] at HJN)
          | (have HJN : Hid (In G w0 (RowC (.slice (some ⟨g, 0, none⟩) cs.length c) (swapTo cs (k + 1)) :: l) (putRow (putRow wr g (J * 20) xs) g (k * 20) ys).drew) := HI6.out.drew
             obtain ⟨W9, hW9⟩ : ∃ W9, (putRow (putRow wr g (J * 20) xs) g (k * 20) ys).drew = W9 := ⟨_, rfl⟩
             rw [hW9]
             rw [hW9] at HJN))
        clear hW9 r1 r2 f1 f2 f3 f4
        go_wp2_with fail
        go_roundw
        case rel => exact ⟨k + 1, (J : Int) - 1, by have := HJI.out; omega, by go_num, by go_num, by have := HJI.out; omega, HJN.out⟩
        case measure => simp [intOf]; omega
    · have hlt2 : jv ≤ (k : Int) := by omega
      have HE : Hid (swapTo cs k = cs.reverse) := swapTo_all cs k hk (by omega)
      go_wp2_with fail
      go_end0
      have h1 := HI.out
      rw [HE.out] at h1
      refine ⟨rfl, ?_⟩
      unfold RowC
      rw [List.length_reverse]
      exact (by have h2 := h1; unfold RowC at h2; rw [List.length_reverse] at h2; exact h2)

def invTo (cs : List Chg) (k : Nat) : List Chg := (cs.take k).map swapC ++ cs.drop k
theorem invTo_len (cs : List Chg) (k : Nat) : (invTo cs k).length = cs.length := by
  unfold invTo; rw [List.length_append, List.length_map, List.length_take, List.length_drop]; omega
theorem invTo_at (cs : List Chg) (k : Nat) (h : k < cs.length) : (invTo cs k)[k]'(by rw [invTo_len]; exact h) = cs[k] := by
  unfold invTo
  rw [List.getElem_append_right (by rw [List.length_map, List.length_take]; omega)]
  simp only [List.length_map, List.length_take, List.getElem_drop]
  congr 1; omega
theorem invTo_succ (cs : List Chg) (k : Nat) (h : k < cs.length) : invTo cs (k + 1) = (invTo cs k).set k (swapC cs[k]) := by
  unfold invTo
  rw [List.set_append_right _ _ (by rw [List.length_map, List.length_take]; omega), List.length_map, List.length_take, Nat.min_eq_left (by omega), Nat.sub_self, List.drop_eq_getElem_cons h, List.set_cons_zero, List.take_succ_eq_append_getElem h, List.map_append]
  simp
theorem invTo_all (cs : List Chg) : invTo cs cs.length = cs.map swapC := by unfold invTo; simp
theorem patch_list {α : Type} (P X Q Y : List α) (o n : Nat) (ho : P.length = o) (hx : X.length = n) (hy : Y.length = n) : (P ++ X ++ Q).take o ++ Y ++ (P ++ X ++ Q).drop (o + n) = P ++ Y ++ Q := by
  rw [List.append_assoc P X Q, List.take_left' ho, List.drop_append, List.drop_of_length_le (by omega), List.nil_append, ho, Nat.add_sub_cancel_left, List.drop_left' hx]
/-- two parts of one element written over -/
theorem In.swapParts {G : Nat → Prop} {w0 w : World} {l : List Assn} {g c : Nat} {cs : List Chg} {k : Nat} (h : In G w0 (RowC (.slice (some ⟨g, 0, none⟩) cs.length c) cs :: l) w) (hk : k < cs.length) :
    In G w0 (RowC (.slice (some ⟨g, 0, none⟩) cs.length c) (cs.set k (swapC cs[k])) :: l) (putRow (putRow w g (k * 20 + 2) (fix9 cs[k].now)) g (k * 20 + 11) (fix9 cs[k].old)) ∧
    In G w0 (RowC (.slice (some ⟨g, 0, none⟩) cs.length c) (cs.set k (swapC cs[k])) :: l) (putRow (putRow w g (k * 20 + 11) (fix9 cs[k].old)) g (k * 20 + 2) (fix9 cs[k].now)) := by
  have hle : (k + 1) * 20 ≤ cs.length * 20 := Nat.mul_le_mul_right _ hk
  have e4 : ∀ y, cs.set k y = cs.take k ++ y :: cs.drop (k + 1) := fun y => by rw [List.set_eq_take_append_cons_drop, if_pos hk]
  have hX : cs.flatMap cC = (cs.take k).flatMap cC ++ cC cs[k] ++ (cs.drop (k + 1)).flatMap cC := by
    have h1 := e4 cs[k]
    rw [List.set_getElem_self] at h1
    conv => lhs; rw [h1]
    rw [List.flatMap_append, List.flatMap_cons, List.append_assoc]
  have hP : ((cs.take k).flatMap cC).length = k * 20 := by rw [flat_len cC_len, List.length_take, Nat.min_eq_left (by omega)]
  have hY : (cs.set k (swapC cs[k])).flatMap cC = (cs.take k).flatMap cC ++ cC (swapC cs[k]) ++ (cs.drop (k + 1)).flatMap cC := by
    rw [e4, List.flatMap_append, List.flatMap_cons, List.append_assoc]
  have hset : (cs.set k (swapC cs[k])).length = cs.length := List.length_set
  generalize hx : cs[k] = x at *
  have c1 : cC x = [Value.int .i64 x.at_.1, .int .i64 x.at_.2] ++ (fix9 x.old).map (Value.int .i64) ++ (fix9 x.now).map (Value.int .i64) := by unfold cC cL; simp
  have c2 : cC (swapC x) = [Value.int .i64 x.at_.1, .int .i64 x.at_.2] ++ (fix9 x.now).map (Value.int .i64) ++ (fix9 x.old).map (Value.int .i64) := by unfold cC cL swapC; simp
  have lo : ((fix9 x.old).map (Value.int .i64)).length = 9 := by rw [List.length_map, fix9_len]
  have ln : ((fix9 x.now).map (Value.int .i64)).length = 9 := by rw [List.length_map, fix9_len]
  rw [Nat.add_mul, Nat.one_mul] at hle
  have go : (putRow (putRow w g (k * 20 + 2) (fix9 x.now)) g (k * 20 + 11) (fix9 x.old)).heap.size = w.heap.size := by rw [putRow_size, putRow_size]
  generalize (cs.take k).flatMap cC = P at *
  generalize (cs.drop (k + 1)).flatMap cC = Q at *
  have hS : ([Value.int .i64 x.at_.1, .int .i64 x.at_.2] : List Value).length = 2 := rfl
  generalize ([Value.int .i64 x.at_.1, .int .i64 x.at_.2] : List Value) = S at *
  have key : ∀ (A B : List Value), A.length = 9 → B.length = 9 → P ++ (S ++ A ++ B) ++ Q = (P ++ S) ++ A ++ (B ++ Q) ∧ P ++ (S ++ A ++ B) ++ Q = (P ++ S ++ A) ++ B ++ Q := fun A B _ _ => ⟨by simp, by simp⟩
  have hPS : (P ++ S).length = k * 20 + 2 := by rw [List.length_append, hP, hS]
  constructor
  · have h1 := h.ownPut (o := k * 20 + 2) (ys := fix9 x.now) (by rw [fix9_len]; omega)
    rw [hX, c1, (key _ _ lo ln).1, fix9_len, patch_list _ _ _ _ _ _ hPS lo ln] at h1
    have h2 := h1.ownPut (o := k * 20 + 11) (ys := fix9 x.old) (by rw [fix9_len]; omega)
    rw [show (P ++ S) ++ (fix9 x.now).map (Value.int .i64) ++ ((fix9 x.now).map (Value.int .i64) ++ Q) = (P ++ S ++ (fix9 x.now).map (Value.int .i64)) ++ (fix9 x.now).map (Value.int .i64) ++ Q from by simp, fix9_len, patch_list _ _ _ _ _ _ (by rw [List.length_append, hPS, ln]) ln lo] at h2
    unfold RowC
    rw [hset, hY, c2, (key _ _ ln lo).2]
    exact h2
  · have h1 := h.ownPut (o := k * 20 + 11) (ys := fix9 x.old) (by rw [fix9_len]; omega)
    rw [hX, c1, (key _ _ lo ln).2, fix9_len, patch_list _ _ _ _ _ _ (by rw [List.length_append, hPS, lo]) ln lo] at h1
    have h2 := h1.ownPut (o := k * 20 + 2) (ys := fix9 x.now) (by rw [fix9_len]; omega)
    rw [show (P ++ S ++ (fix9 x.old).map (Value.int .i64)) ++ (fix9 x.old).map (Value.int .i64) ++ Q = (P ++ S) ++ (fix9 x.old).map (Value.int .i64) ++ ((fix9 x.old).map (Value.int .i64) ++ Q) from by simp, fix9_len, patch_list _ _ _ _ _ _ hPS lo ln] at h2
    unfold RowC
    rw [hset, hY, c2, (key _ _ ln lo).1]
    exact h2

theorem row_part {w : World} {g o n : Nat} {xs : List Int} (h : row? w g o n = some (ints xs)) (a m : Nat) (ham : a + m ≤ n) : row? w g (o + a) m = some (ints ((xs.drop a).take m)) := by
  unfold row? at *
  split at h
  · split at h
    · rename_i hle
      injection h with h
      rw [if_pos (by omega)]
      congr 1
      have h2 : (ints xs).extract a (a + m) = ints ((xs.drop a).take m) := by
        unfold ints
        apply Array.ext'
        simp [List.map_drop, List.map_take, List.extract_eq_take_drop]
      rw [← h2, ← h, Array.extract_extract, Nat.min_eq_left (by omega), Nat.add_assoc]
    · cases h
  · cases h
theorem fits_part {w : World} {g o n : Nat} (h : fits w g o n = true) (a m : Nat) (ham : a + m ≤ n) : fits w g (o + a) m = true := by
  unfold fits at *
  split at h
  · rw [decide_eq_true_eq] at h ⊢; omega
  · cases h
theorem fits_put {w : World} {g o n o' : Nat} {ys : List Int} (h : fits w g o n = true) (h' : fits w g o' ys.length = true) : fits (putRow w g o' ys) g o n = true := by
  unfold fits at *
  split at h
  · rename_i cs t hg
    rw [hg] at h'
    simp only [decide_eq_true_eq] at h h'
    simp [putRow, Array.getElem?_modify, hg]
    omega
  · cases h

set_option maxHeartbeats 4000000 in
set_option maxRecDepth 100000 in
theorem invert_any (A : Option Addr) (c : Nat) (cs : List Chg) (w : World) (h : ChgsIn w w.heap.size A cs) (hA : (A = none ∧ cs.length = 0 ∧ c = 0) ∨ ∃ ad, A = some ad) (hl : cs.length ≤ 879609302195) :
    Calls Try.prog 39 #[.slice A cs.length c] w fun e w' => ∃ v, e = .returned v ∧ In (fun _ => False) w [RowC v (invD cs)] w' := by
  have HC : Hid (Reads w w.heap.size 20 A cs.length (cs.flatMap cC)) := by
    have := chunks_reads (by decide) h
    rw [List.length_map, List.flatMap_map] at this
    exact this
  have H1 : Hid (∀ u ∈ cs.flatMap cC, u.oneCell' = true) := fun u hu => by
    obtain ⟨x, _, hx⟩ := List.mem_flatMap.1 hu
    obtain ⟨y, _, rfl⟩ := List.mem_map.1 hx
    rfl
  have HL := Lib.hid hl
  have HA := Lib.hid hA
  clear h hl hA
  go_enter Try.func39, Try.ntmps39
  go_wp2_with fail
  refine (cloneChange_any A cs.length c (cs.flatMap cC) w w.heap.size HC.out H1.out HA.out HL.out).mono ?_
  rintro e w1 ⟨v, rfl, ho, hb⟩
  have HI1 : Hid (In (fun _ => False) w [RowC v cs] w1) := (In.nil w _).new (A := RowC v cs) hb ⟨own_base ho, fun k hk => (World.ownsRow.lt ho k hk).1⟩
  clear ho hb HC H1
  go_wp2_with fail
  refine (reverse_in HI1.out).mono ?_
  rintro e w2 ⟨rfl, hI2⟩
  have HLR : Hid (cs.reverse.length ≤ 879609302195) := by rw [Hid, List.length_reverse]; exact HL.out
  have HV : Hid (invD cs = cs.reverse.map swapC) := rfl
  clear HI1
  generalize cs.reverse = ds at *
  obtain ⟨A2, c2, rfl, hc1, hc2, hA2⟩ := own_form hI2.rowAt
  have HI2 := Lib.hid hI2
  have HA2 := Lib.hid hA2
  have hl2 : (ds.length : Int) ≤ 879609302195 := by have := HLR.out; omega
  clear hI2 hA2 hc1 hc2
  go_wp2_with fail
  go_loopw [11] (fun i w' => ∃ k : Nat, k ≤ ds.length ∧ i = .int .i64 k ∧ In (fun _ => False) w [RowC (.slice A2 ds.length c2) (invTo ds k)] w') (fun i _ => ds.length - (intOf i).toNat)
  case atStart => exact ⟨0, by omega, rfl, HI2.out⟩
  case round =>
    clear HI2
    obtain ⟨k, hk, rfl, hI⟩ := hrel
    have HI := Lib.hid hI
    clear hI
    by_cases hlt : k < ds.length
    · have hki : (k : Int) < ds.length := by omega
      obtain ⟨g, rfl⟩ := HA2.out (by omega)
      have HST := Lib.hid (invTo_succ ds k hlt)
      have hat := invTo_at ds k hlt
      have hlen := invTo_len ds k
      have hI2 : In (fun _ => False) w [RowC (.slice (some ⟨g, 0, none⟩) (invTo ds k).length c2) (invTo ds k)] wr := by rw [hlen]; exact HI.out
      obtain ⟨hs1, hs2⟩ := hI2.swapParts (k := k) (by omega)
      have hr := hI2.chg (k := k) (by omega)
      have hf := hI2.fitC (k := k) (by omega)
      rw [hat] at hs1 hs2 hr
      rw [hlen, ← HST.out] at hs1 hs2
      have q1 : row? wr g (k * 20 + 2) 9 = some (ints (fix9 ds[k].old)) := by
        rw [row_part hr 2 9 (by omega)]
        unfold cL
        simp only [List.drop_succ_cons, List.drop_zero]
        rw [List.take_left' (fix9_len _)]
      have q2 : row? wr g (k * 20 + 11) 9 = some (ints (fix9 ds[k].now)) := by
        rw [row_part hr 11 9 (by omega)]
        unfold cL
        simp only [List.drop_succ_cons]
        rw [List.drop_left' (fix9_len _), List.take_of_length_le (by rw [fix9_len]; omega)]
      have f1 := fits_part hf 2 9 (by omega)
      have f2 := fits_part hf 11 9 (by omega)
      have l1 := fix9_len ds[k].old
      have l2 := fix9_len ds[k].now
      generalize fix9 ds[k].old = xs at *
      generalize fix9 ds[k].now = ys at *
      have f3 : fits (putRow wr g (k * 20 + 2) ys) g (k * 20 + 11) 9 = true := fits_put f2 (by rw [l2]; exact f1)
      have f4 : fits (putRow wr g (k * 20 + 11) xs) g (k * 20 + 2) 9 = true := fits_put f1 (by rw [l1]; exact f2)
      have HS1 := Lib.hid hs1
      have HS2 := Lib.hid hs2
      clear hs1 hs2 hr hf hI2 hat hlen HST HI
      go_upto_region 6 with (fail)
      go_region
      all_goals
        (first
          | (have HJN : Hid (In (fun _ => False) w [RowC (.slice (some ⟨g, 0, none⟩) ds.length c2) (invTo ds (k + 1))] (putRow (putRow wr g (k * 20 + 2) ys) g (k * 20 + 11) xs).drew) := HS1.out.drew
             obtain ⟨W9, hW9⟩ : ∃ W9, (putRow (putRow wr g (k * 20 + 2) ys) g (k * 20 + 11) xs).drew = W9 := ⟨_, rfl⟩
             rw [hW9]
             rw [hW9] at HJN)
          | (have HJN : Hid (In (fun _ => False) w [RowC (.slice (some ⟨g, 0, none⟩) ds.length c2) (invTo ds (k + 1))] (putRow (putRow wr g (k * 20 + 11) xs) g (k * 20 + 2) ys).drew) := HS2.out.drew
             obtain ⟨W9, hW9⟩ : ∃ W9, (putRow (putRow wr g (k * 20 + 11) xs) g (k * 20 + 2) ys).drew = W9 := ⟨_, rfl⟩
             rw [hW9]
             rw [hW9] at HJN))
        clear hW9 q1 q2 f1 f2 f3 f4
        go_wp2_with fail
        go_roundw
        case rel => exact ⟨k + 1, by omega, by go_num, HJN.out⟩
        case measure => simp [intOf]; omega
    · have hki : (ds.length : Int) ≤ k := by omega
      have HE : Hid (invTo ds k = invD cs) := by
        have : k = ds.length := by omega
        rw [Hid, HV.out, this, invTo_all]
      go_wp2_with fail
      go_ret
      refine ⟨_, rfl, ?_⟩
      have h1 := HI.out
      have h2 : (invD cs).length = ds.length := by rw [HV.out, List.length_map]
      rw [HE.out] at h1
      unfold RowC
      rw [h2]
      have h3 := h1
      unfold RowC at h3
      rw [h2] at h3
      exact h3

end Go.Proofs.Ytpgdobomcdpdbaa

/-
  Between, Apply, Invert and Eq among other things in memory; the closed fact 'differed'.
-/
namespace Go.Proofs.Ytpgdobomcdpdbaa
open Go.RowKit

/-- rows as an argument, at the start and behind whatever made memory alone -/
structure RowsArg (w : World) (A : Option Addr) (a : List RowD) : Prop where
  reads : RowsIn w w.heap.size A a
  ok : ∀ r ∈ a, RowOk r
  len : a.length ≤ maxLen
structure ChgsArg (w : World) (A : Option Addr) (a : List Chg) : Prop where
  reads : ChgsIn w w.heap.size A a
  ok : ∀ r ∈ a, ChgOk r
  len : a.length ≤ maxLen
theorem RowsArg.after {w w' : World} {A : Option Addr} {a : List RowD} (h : RowsArg w A a) (hb : Below w.heap.size w w') : RowsArg w' A a := ⟨(Chunks.below h.reads hb).more hb.size, h.ok, h.len⟩
theorem ChgsArg.after {w w' : World} {A : Option Addr} {a : List Chg} (h : ChgsArg w A a) (hb : Below w.heap.size w w') : ChgsArg w' A a := ⟨(Chunks.below h.reads hb).more hb.size, h.ok, h.len⟩
theorem betweenR_ok2 {a b : List RowD} (ha : ∀ r ∈ a, RowOk r) (hb : ∀ r ∈ b, RowOk r) : ∀ c ∈ (betweenR a b).1, ChgOk c := by
  unfold betweenR
  split
  · intro c hc
    obtain ⟨h1, _, _⟩ := mem_between hc
    rw [h1]
    exact ⟨dget_len ha _, dget_len hb _⟩
  · intro c hc; simp at hc
theorem betweenR_len {a b : List RowD} : (betweenR a b).1.length ≤ 120 := by
  unfold betweenR
  split
  · rename_i h
    rw [Bool.and_eq_true] at h
    exact between_120 h.1 h.2
  · simp
theorem mayD_len {a : List RowD} (h : mayD a = true) : a.length ≤ 60 := (mayD_rows h).2.2
theorem applyStep_rows {m m' : List RowD} {c : Chg} (hm : ∀ r ∈ m, RowOk r) (hc : ChgOk c) (h : applyStep m c = .ok m') : ∀ r ∈ m', RowOk r := by
  unfold applyStep at h
  split at h
  · cases h
  · split at h
    · cases h
    · split at h
      · cases h; exact fun r hr => hm r (mem_mdel.1 hr).1
      · cases h; exact mput_rows hm hc.2
theorem applyL_rows : ∀ {cs : List Chg} {m m' : List RowD}, (∀ r ∈ m, RowOk r) → (∀ c ∈ cs, ChgOk c) → applyL m cs = .ok m' → ∀ r ∈ m', RowOk r
  | [], m, m', hm, _, h => by cases h; exact hm
  | c :: cs, m, m', hm, hc, h => by
    unfold applyL at h
    split at h
    · cases h
    · rename_i m1 h1
      exact applyL_rows (applyStep_rows hm (hc c (by simp)) h1) (fun d hd => hc d (by simp [hd])) h
theorem rowsOf_ok {m : List RowD} (hm : ∀ r ∈ m, RowOk r) : ∀ r ∈ rowsOf m, RowOk r := fun r hr => by
  obtain ⟨x, _, rfl⟩ := List.mem_map.1 hr
  exact rowFor_ok hm x
theorem applyR_ok2 {l : List RowD} {cs : List Chg} (hl : ∀ r ∈ l, RowOk r) (hc : ∀ c ∈ cs, ChgOk c) : ∀ r ∈ (applyR l cs).1, RowOk r := by
  unfold applyR
  split
  · simp
  · split
    · simp
    · split
      · simp
      · rename_i m hm
        split
        · exact rowsOf_ok (applyL_rows hl hc hm)
        · simp
theorem applyR_len {l : List RowD} {cs : List Chg} : (applyR l cs).1.length ≤ 60 := by
  unfold applyR
  split
  · simp
  · split
    · simp
    · split
      · simp
      · split
        · rename_i h; exact mayD_len h
        · simp
theorem invD_ok {cs : List Chg} (h : ∀ c ∈ cs, ChgOk c) : ∀ c ∈ invD cs, ChgOk c := fun c hc => by
  unfold invD at hc
  obtain ⟨d, hd, rfl⟩ := List.mem_map.1 hc
  have := h d (List.mem_reverse.1 hd)
  exact ⟨this.2, this.1⟩

section
variable {G : Nat → Prop} {w0 w : World} {l : List Assn} {v u : Value}
theorem In.rowsArg {rs : List RowD} (h : In G w0 (RowR v rs :: l) w) (hok : ∀ r ∈ rs, RowOk r) : ∃ A c, v = .slice A rs.length c ∧ RowsArg w A rs := by
  obtain ⟨A, c, rfl, h1, h2, h3⟩ := RowsIn.own h.rowAt
  exact ⟨A, c, rfl, h3, hok, by omega⟩
theorem In.chgsArg {cs : List Chg} (h : In G w0 (RowC v cs :: l) w) (hok : ∀ r ∈ cs, ChgOk r) : ∃ A c, v = .slice A cs.length c ∧ ChgsArg w A cs ∧ ((A = none ∧ cs.length = 0 ∧ c = 0) ∨ ∃ ad, A = some ad) := by
  obtain ⟨A, c, rfl, h1, h2, h3, h4⟩ := own_chunks (f := cL) (fun _ => rfl) cL_len h.rowAt
  refine ⟨A, c, rfl, ⟨h3, hok, by omega⟩, ?_⟩
  cases A with
  | some ad => exact Or.inr ⟨ad, rfl⟩
  | none =>
    left
    refine ⟨rfl, ?_⟩
    rcases h.rowAt.2 with h | ⟨g, cap, cur, e, _⟩
    · injection h.1 with e1 e2 e3
      exact ⟨e2, e3⟩
    · cases e
theorem eqRows_any {A A' : Option Addr} (c c' : Nat) {a b : List RowD} (ha : RowsArg w A a) (hb : RowsArg w A' b) : Calls Try.prog 37 #[.slice A a.length c, .slice A' b.length c'] w fun e w' => e = .returned (.bool (decide (a = b))) ∧ Below w.heap.size w w' := by
  have := eqRow_any A A' c c' (a.map rL) (b.map rL) w ha.reads hb.reads (by rw [List.length_map]; exact ha.len) (by rw [List.length_map]; exact hb.len)
  have hd : sameRows (a.map rL) (b.map rL) = decide (a = b) := by
    unfold sameRows
    rw [Bool.eq_iff_iff, decide_eq_true_eq, decide_eq_true_eq]
    constructor
    · intro h
      have h1 := ha.ok
      have h2 := hb.ok
      clear this ha hb
      induction a generalizing b with
      | nil => cases b with
        | nil => rfl
        | cons _ _ => simp at h
      | cons x a ih => cases b with
        | nil => simp at h
        | cons y b =>
          rw [List.map_cons, List.map_cons] at h
          injection h with e1 e2
          rw [rL_inj (h1 x (by simp)) (h2 y (by simp)) e1, ih e2 (fun r hr => h1 r (by simp [hr])) (fun r hr => h2 r (by simp [hr]))]
    · rintro rfl; rfl
  rw [List.length_map, List.length_map, hd] at this
  exact this
theorem eqChgs_any {A A' : Option Addr} (c c' : Nat) {a b : List Chg} (ha : ChgsArg w A a) (hb : ChgsArg w A' b) (e : a = b) : Calls Try.prog 40 #[.slice A a.length c, .slice A' b.length c'] w fun e w' => e = .returned (.bool true) ∧ Below w.heap.size w w' := by
  have := eqChange_any A A' c c' (a.map cL) (b.map cL) w ha.reads hb.reads (by rw [List.length_map]; exact ha.len) (by rw [List.length_map]; exact hb.len)
  have hd : sameRows (a.map cL) (b.map cL) = true := by
    unfold sameRows
    rw [e]; simp
  rw [List.length_map, List.length_map, hd] at this
  exact this
theorem between_in {A A' : Option Addr} (c c' : Nat) {a b : List RowD} (h : In G w0 l w) (ha : RowsArg w A a) (hb : RowsArg w A' b) :
    Calls Try.prog 36 #[.slice A a.length c, .slice A' b.length c'] w fun e w' => ∃ v, e = .returned (.tuple #[v, .int .i64 (betweenR a b).2]) ∧ In G w0 (RowC v (betweenR a b).1 :: l) w' ∧ Below w.heap.size w w' := by
  refine (between_any A A' c c' a b w ha.reads hb.reads ha.ok hb.ok ha.len hb.len).mono ?_
  rintro e w' ⟨v, rfl, hI⟩
  exact ⟨v, rfl, h.new (A := RowC v (betweenR a b).1) hI.below0 hI.fresh, hI.below0⟩
theorem apply_in {A A' : Option Addr} (c c' : Nat) {a : List RowD} {cs : List Chg} (h : In G w0 l w) (ha : RowsArg w A a) (hb : ChgsArg w A' cs) :
    Calls Try.prog 38 #[.slice A a.length c, .slice A' cs.length c'] w fun e w' => ∃ v, e = .returned (.tuple #[v, .int .i64 (applyR a cs).2]) ∧ In G w0 (RowR v (applyR a cs).1 :: l) w' ∧ Below w.heap.size w w' := by
  refine (apply_any A A' c c' a cs w ha.reads hb.reads ha.ok hb.ok ha.len hb.len).mono ?_
  rintro e w' ⟨v, rfl, hI⟩
  exact ⟨v, rfl, h.new (A := RowR v (applyR a cs).1) hI.below0 hI.fresh, hI.below0⟩
theorem invert_in {A : Option Addr} (c : Nat) {cs : List Chg} (h : In G w0 l w) (ha : ChgsArg w A cs) (hA : (A = none ∧ cs.length = 0 ∧ c = 0) ∨ ∃ ad, A = some ad) (hl : cs.length ≤ 879609302195) :
    Calls Try.prog 39 #[.slice A cs.length c] w fun e w' => ∃ v, e = .returned v ∧ In G w0 (RowC v (invD cs) :: l) w' ∧ Below w.heap.size w w' := by
  refine (invert_any A c cs w ha.reads hA hl).mono ?_
  rintro e w' ⟨v, rfl, hI⟩
  exact ⟨v, rfl, h.new (A := RowC v (invD cs)) hI.below0 hI.fresh, hI.below0⟩
end

theorem dif1 : betweenR [((0, 0), zeroB)] [] = ([⟨(0, 0), zeroB, noneB⟩], 0) := by
  have h1 : mayD [((0, 0), zeroB)] = true := by decide
  have h2 : mayD ([] : List RowD) = true := by decide
  have h3 : sortedKeys (allOf [((0, 0), zeroB)] []) = [(0, 0)] := by
    unfold sortedKeys allOf mkeys
    simp
  unfold betweenR between
  rw [h1, h2, h3]
  rfl
set_option maxHeartbeats 1000000 in
set_option maxRecDepth 100000 in
theorem differed_any (w : World) : Calls Try.prog 35 #[] w fun e w' => e = .returned (.bool true) ∧ Below w.heap.size w w' := by
  have HI0 : Hid (In (fun _ => False) w [RowR (.slice (some ⟨w.heap.size, 0, none⟩) 1 1) [((0, 0), zeroB)]] (w.alloc (.cells (rC ((0, 0), zeroB)).toArray 41))) := (In.nil w _).newLit 41 11 1 (rC ((0, 0), zeroB)) rfl (by decide)
  go_enter Try.func35, Try.ntmps35
  go_wp2_with fail
  have hI0 : In (fun _ => False) w [RowR (.slice (some ⟨w.heap.size, 0, none⟩) 1 1) [((0, 0), zeroB)]] (w.alloc (.cells (ints [0, 0, 0, 0, 0, 0, 0, 0, 0, 0, 0]) 41)) := HI0.out
  clear HI0
  generalize (w.alloc (.cells (ints [0, 0, 0, 0, 0, 0, 0, 0, 0, 0, 0]) 41)) = w1 at *
  generalize w.heap.size = g0 at *
  obtain ⟨A1, c1, e1, ha⟩ := hI0.rowsArg (by intro r hr; rw [List.mem_singleton.1 hr]; rfl)
  injection e1 with e1 e2 e3
  subst e1
  clear e2 e3
  have hb : RowsArg w1 none [] := ⟨⟨by simp, by simp⟩, by simp, by simp⟩
  refine (between_in 1 0 hI0 ha hb).mono ?_
  rintro e w2 ⟨v, rfl, hI2, _⟩
  rw [dif1] at hI2
  rw [dif1]
  simp only at hI2 ⊢
  obtain ⟨A2, c2, rfl, hc, _⟩ := hI2.chgsArg (by intro r hr; rw [List.mem_singleton.1 hr]; exact ⟨rfl, rfl⟩)
  have HI2 := Lib.hid hI2
  clear ha hb hI0 hI2 hc
  have hbc : ∀ W, (rowBuild 72 #[(2, .agg #[.int .i64 (-1), .int .i64 0, .int .i64 0, .int .i64 0, .int .i64 0, .int .i64 0, .int .i64 0, .int .i64 0, .int .i64 0])]).run Try.prog W = .ok (.agg (ints [0, 0, 0, 0, 0, 0, 0, 0, 0, 0, 0, -1, 0, 0, 0, 0, 0, 0, 0, 0])) W := fun W => by kernel_rfl
  have HI3 : Hid (In (fun _ => False) w [RowC (.slice (some ⟨w2.heap.size, 0, none⟩) 1 1) [⟨(0, 0), zeroB, noneB⟩], RowC (.slice A2 1 c2) [⟨(0, 0), zeroB, noneB⟩], RowR (.slice (some ⟨g0, 0, none⟩) 1 1) [((0, 0), zeroB)]] (w2.alloc (.cells (ints [0, 0, 0, 0, 0, 0, 0, 0, 0, 0, 0, -1, 0, 0, 0, 0, 0, 0, 0, 0]) 72))) := HI2.out.newLit 72 20 1 (cC ⟨(0, 0), zeroB, noneB⟩) rfl (by decide)
  have HB0 := Lib.hid HI3.out.below0
  obtain ⟨A3, c3, e3, h3, _⟩ := HI3.out.chgsArg (by intro r hr; rw [List.mem_singleton.1 hr]; exact ⟨rfl, rfl⟩)
  obtain ⟨A4, c4, e4, h4, _⟩ := HI3.out.swap.chgsArg (by intro r hr; rw [List.mem_singleton.1 hr]; exact ⟨rfl, rfl⟩)
  injection e3 with e31 e32 e33
  injection e4 with e41 e42 e43
  subst e31; subst e41
  have HE := Lib.hid (eqChgs_any c2 1 h4 h3 rfl)
  clear e32 e33 e42 e43 h3 h4
  go_wp2_with fail
  refine HE.out.mono ?_
  rintro e w5 ⟨rfl, hb5⟩
  have HB5 := Lib.hid (HB0.out.trans (hb5.mono HB0.out.size))
  clear hb5 HE
  go_wp2_with fail
  go_ret
  exact ⟨rfl, HB5.out⟩

end Go.Proofs.Ytpgdobomcdpdbaa

/-
  The walks of the laws DiffNone, DiffBack, DiffThrough, DiffTwice.
-/
namespace Go.Proofs.Ytpgdobomcdpdbaa
open Go.RowKit

theorem betweenR_cases (a b : List RowD) : (mayD a = true ∧ mayD b = true ∧ betweenR a b = (between a b, 0)) ∨ betweenR a b = ([], 4) := by
  unfold betweenR
  cases mayD a <;> cases mayD b <;> simp

set_option maxHeartbeats 1000000 in
set_option maxRecDepth 100000 in
theorem diffNone_any (A : Option Addr) (c : Nat) (a : List RowD) (A' : Option Addr) (c' : Nat) (b : List RowD) (w : World) (ha : RowsArg w A a) (hb : RowsArg w A' b) :
    Calls Try.prog 10 #[.slice A a.length c, .slice A' b.length c'] w fun e w' => e = .returned (.bool true) ∧ Below w.heap.size w w' := by
  have HA := Lib.hid ha
  have HB := Lib.hid hb
  clear ha hb
  go_enter Try.func10, Try.ntmps10
  go_wp2_with fail
  refine (differed_any w).mono ?_
  rintro e w1 ⟨rfl, hb1⟩
  have HI1 : Hid (In (fun _ => False) w [] w1) := (In.nil w _).below hb1
  clear hb1
  go_wp2_with fail
  refine (between_in c c' HI1.out (HA.out.after HI1.out.below0) (HB.out.after HI1.out.below0)).mono ?_
  rintro e w2 ⟨v, rfl, hI2, _⟩
  rcases betweenR_cases a b with ⟨hma, hmb, hr⟩ | hr
  · have HN := Lib.hid (diff_none hma hmb)
    have HMA := Lib.hid hma
    have HMB := Lib.hid hmb
    rw [hr] at hI2
    rw [hr]
    simp only at hI2 ⊢
    obtain ⟨A2, c2, rfl, _, _⟩ := hI2.chgsArg (by have := betweenR_ok2 HA.out.ok HB.out.ok; rw [hr] at this; exact this)
    have hl120 : ((between a b).length : Int) ≤ 120 := by have := between_120 hma hmb; omega
    have HI2 := Lib.hid hI2
    clear hma hmb hr hI2
    have HE := Lib.hid (eqRows_any c c' (HA.out.after HI2.out.below0) (HB.out.after HI2.out.below0))
    by_cases e : a = b
    · have h0 : (between a b).length = 0 := HN.out.2 e
      have hd : decide (a = b) = true := by simpa using e
      rw [hd] at HE
      have HE := Lib.hid HE.out
      clear e hd
      rw [h0]
      have h00 : ((0 : Nat) : Int) = 0 := rfl
      clear h0
      go_wp2_with fail
      refine HE.out.mono ?_
      rintro e w5 ⟨rfl, hb5⟩
      have HB5 := Lib.hid (HI2.out.below0.trans (hb5.mono HI2.out.below0.size))
      clear hb5 HE
      go_wp2_with fail
      go_ret
      exact ⟨rfl, HB5.out⟩
    · have h0 : (((between a b).length : Int) == 0) = false := by
        have : (between a b).length ≠ 0 := fun h => e (HN.out.1 h)
        exact beq_eq_false_iff_ne.2 (by omega)
      have hd : decide (a = b) = false := by simpa using e
      rw [hd] at HE
      have HE := Lib.hid HE.out
      clear e hd
      go_wp2_with fail
      refine HE.out.mono ?_
      rintro e w5 ⟨rfl, hb5⟩
      have HB5 := Lib.hid (HI2.out.below0.trans (hb5.mono HI2.out.below0.size))
      clear hb5 HE
      go_wp2_with fail
      go_ret
      exact ⟨rfl, HB5.out⟩
  · rw [hr]
    have HB2 := Lib.hid hI2.below0
    clear hr hI2
    simp only
    go_wp2_with fail
    go_ret
    exact ⟨rfl, HB2.out⟩

set_option maxHeartbeats 1000000 in
set_option maxRecDepth 100000 in
theorem diffBack_any (A : Option Addr) (c : Nat) (a : List RowD) (A' : Option Addr) (c' : Nat) (b : List RowD) (w : World) (ha : RowsArg w A a) (hb : RowsArg w A' b) :
    Calls Try.prog 13 #[.slice A a.length c, .slice A' b.length c'] w fun e w' => e = .returned (.bool true) ∧ Below w.heap.size w w' := by
  have HA := Lib.hid ha
  have HB := Lib.hid hb
  clear ha hb
  go_enter Try.func13, Try.ntmps13
  go_wp2_with fail
  refine (differed_any w).mono ?_
  rintro e w1 ⟨rfl, hb1⟩
  have HI1 : Hid (In (fun _ => False) w [] w1) := (In.nil w _).below hb1
  clear hb1
  go_wp2_with fail
  refine (between_in c c' HI1.out (HA.out.after HI1.out.below0) (HB.out.after HI1.out.below0)).mono ?_
  rintro e w2 ⟨v, rfl, hI2, _⟩
  rcases betweenR_cases a b with ⟨hma, hmb, hr⟩ | hr
  rotate_left
  · rw [hr] at hI2
    rw [hr]
    obtain ⟨A2, c2, rfl, _, _⟩ := hI2.chgsArg (by simp)
    have HB2 := Lib.hid hI2.below0
    clear hr hI2
    simp only
    go_wp2_with fail
    go_ret
    exact ⟨rfl, HB2.out⟩
  have HMA := Lib.hid hma
  have HMB := Lib.hid hmb
  have HT := Lib.hid (diff_there hma hmb)
  have HK := Lib.hid (diff_back hma hmb)
  have HOK := betweenR_ok2 HA.out.ok HB.out.ok
  rw [hr] at hI2 HOK
  rw [hr]
  simp only at hI2 HOK ⊢
  obtain ⟨A2, c2, rfl, hc2, hA2⟩ := hI2.chgsArg HOK
  have HOK := Lib.hid HOK
  have HL : Hid ((between a b).length ≤ 120) := between_120 hma hmb
  have HLI : Hid ((invD (between a b)).length ≤ 120) := by rw [Hid, invD_len]; exact HL.out
  have HSW : Hid ((between b a).length = (between a b).length) := between_swap (mayD_nodup hma) (mayD_nodup hmb)
  have hrb : betweenR b a = (between b a, 0) := by unfold betweenR; rw [hma, hmb]; rfl
  have HRB := Lib.hid hrb
  have HI2 := Lib.hid hI2
  have HC2 := Lib.hid hc2
  have HA2 := Lib.hid hA2
  clear hma hmb hr hI2 hc2 hA2 hrb HI1
  generalize between a b = cs at *
  go_wp2_with fail
  refine (apply_in c c2 HI2.out (HA.out.after HI2.out.below0) HC2.out).mono ?_
  rintro e w3 ⟨x, rfl, hI3, hb3⟩
  rw [HT.out] at hI3
  rw [HT.out]
  simp only at hI3 ⊢
  obtain ⟨A3, c3, rfl, _⟩ := hI3.rowsArg HB.out.ok
  have HI3 := Lib.hid hI3
  have HC3 := Lib.hid (HC2.out.after hb3)
  clear hI3 hb3 HI2 HC2
  go_wp2_with fail
  refine (invert_in c2 HI3.out HC3.out HA2.out (by have := HL.out; omega)).mono ?_
  rintro e w4 ⟨v4, rfl, hI4, _⟩
  obtain ⟨A4, c4, rfl, hc4, _⟩ := hI4.chgsArg (invD_ok HOK.out)
  have HI4 := Lib.hid hI4
  have HC4 := Lib.hid hc4
  clear hI4 hc4 HI3 HC3
  go_wp2_with fail
  refine (apply_in c' c4 HI4.out (HB.out.after HI4.out.below0) HC4.out).mono ?_
  rintro e w5 ⟨y, rfl, hI5, hb5⟩
  rw [HK.out] at hI5
  rw [HK.out]
  simp only at hI5 ⊢
  obtain ⟨A5, c5, rfl, _⟩ := hI5.rowsArg HA.out.ok
  have HI5 := Lib.hid hI5
  clear hI5 hb5 HI4 HC4
  go_wp2_with fail
  refine (between_in c' c HI5.out (HB.out.after HI5.out.below0) (HA.out.after HI5.out.below0)).mono ?_
  rintro e w6 ⟨v6, rfl, hI6, _⟩
  rw [HRB.out] at hI6
  rw [HRB.out]
  simp only at hI6 ⊢
  obtain ⟨A6, c6, rfl, _, _⟩ := hI6.chgsArg (by have := betweenR_ok2 HB.out.ok HA.out.ok; rw [HRB.out] at this; exact this)
  have HI6 := Lib.hid hI6
  clear hI6 HI5
  rw [HSW.out]
  obtain ⟨A7, c7, e7, h7⟩ := HI6.out.fourth.rowsArg HB.out.ok
  obtain ⟨A8, c8, e8, h8⟩ := HI6.out.swap.rowsArg HA.out.ok
  injection e7 with e71 e72 e73
  injection e8 with e81 e82 e83
  subst e71; subst e81
  have H7 := Lib.hid (eqRows_any c3 c' h7 (HB.out.after HI6.out.below0))
  have H8 := Lib.hid h8
  have hd1 : decide (b = b) = true := by simp
  rw [hd1] at H7
  clear e72 e73 e82 e83 h7 h8 hd1
  have h120 : (cs.length : Int) ≤ 120 := by have := HL.out; omega
  go_wp2_with fail
  refine H7.out.mono ?_
  rintro e w7 ⟨rfl, hb7⟩
  have HB7 := Lib.hid (HI6.out.below0.trans (hb7.mono HI6.out.below0.size))
  have H9 := Lib.hid (eqRows_any c5 c (H8.out.after hb7) (HA.out.after HB7.out))
  rw [show decide (a = a) = true from by simp] at H9
  clear hb7 H7 H8
  go_wp2_with fail
  refine H9.out.mono ?_
  rintro e w8 ⟨rfl, hb8⟩
  have HB8 := Lib.hid (HB7.out.trans (hb8.mono HB7.out.size))
  clear hb8 H9
  go_wp2_with fail
  go_ret
  exact ⟨rfl, HB8.out⟩

theorem applyR_cases (l : List RowD) (cs : List Chg) : (∃ x, applyR l cs = (x, 0)) ∨ ∃ e, e ≠ 0 ∧ applyR l cs = ([], e) ∧ (e = 2 ∨ e = 4 ∨ e = 5) := by
  unfold applyR
  split
  · exact Or.inr ⟨4, by decide, rfl, by decide⟩
  · split
    · exact Or.inr ⟨2, by decide, rfl, by decide⟩
    · split
      · rename_i e he
        rcases applyL_err he with rfl | rfl
        · exact Or.inr ⟨4, by decide, rfl, by decide⟩
        · exact Or.inr ⟨5, by decide, rfl, by decide⟩
      · split
        · exact Or.inl ⟨_, rfl⟩
        · exact Or.inr ⟨4, by decide, rfl, by decide⟩
theorem applyR_120 {l x : List RowD} {cs : List Chg} (h : applyR l cs = (x, 0)) : cs.length ≤ 120 := by
  unfold applyR at h
  split at h
  · injection h with _ h2; cases h2
  · split at h
    · injection h with _ h2; cases h2
    · omega
set_option maxHeartbeats 1000000 in
set_option maxRecDepth 100000 in
theorem diffTwice_any (A : Option Addr) (c : Nat) (a : List RowD) (A' : Option Addr) (c' : Nat) (b : List Chg) (w : World) (ha : RowsArg w A a) (hb : ChgsArg w A' b) (hA' : (A' = none ∧ b.length = 0 ∧ c' = 0) ∨ ∃ ad, A' = some ad) (hlb : b.length ≤ 879609302195) :
    Calls Try.prog 14 #[.slice A a.length c, .slice A' b.length c'] w fun e w' => e = .returned (.bool true) ∧ Below w.heap.size w w' := by
  have HA := Lib.hid ha
  have HB := Lib.hid hb
  have HAD := Lib.hid hA'
  have HLB := Lib.hid hlb
  have hb' : (b.length : Int) ≤ 879609302195 := by omega
  clear ha hb hA' hlb
  go_enter Try.func14, Try.ntmps14
  go_wp2_with fail
  refine (differed_any w).mono ?_
  rintro e w1 ⟨rfl, hb1⟩
  have HI1 : Hid (In (fun _ => False) w [] w1) := (In.nil w _).below hb1
  clear hb1
  go_wp2_with fail
  refine (invert_in c' HI1.out (HB.out.after HI1.out.below0) HAD.out HLB.out).mono ?_
  rintro e w2 ⟨v2, rfl, hI2, _⟩
  obtain ⟨A2, c2, rfl, hc2, hA2⟩ := hI2.chgsArg (invD_ok HB.out.ok)
  have HI2 := Lib.hid hI2
  have HC2 := Lib.hid hc2
  have HA2 := Lib.hid hA2
  clear hI2 hc2 hA2 HI1
  go_wp2_with fail
  refine (invert_in c2 HI2.out HC2.out HA2.out (by rw [invD_len]; exact HLB.out)).mono ?_
  rintro e w3 ⟨v3, rfl, hI3, _⟩
  rw [invD_inv] at hI3
  obtain ⟨A3, c3, rfl, hc3, _⟩ := hI3.chgsArg HB.out.ok
  have HI3 := Lib.hid hI3
  have HE := Lib.hid (eqChgs_any c3 c' hc3 (HB.out.after hI3.below0) rfl)
  clear hI3 hc3 HI2 HC2 HA2
  go_wp2_with fail
  refine HE.out.mono ?_
  rintro e w4 ⟨rfl, hb4⟩
  have HI4 : Hid (In (fun _ => False) w [] w4) := (HI3.out.below hb4).drop.drop
  clear hb4 HE HI3
  go_wp2_with fail
  refine (apply_in c c' HI4.out (HA.out.after HI4.out.below0) (HB.out.after HI4.out.below0)).mono ?_
  rintro e w5 ⟨x, rfl, hI5, _⟩
  rcases applyR_cases a b with ⟨rs, hr⟩ | ⟨er, he0, hr, he⟩
  · obtain ⟨hmx, hbk⟩ := applyR_back hr
    have HBK := Lib.hid hbk
    have h120 := applyR_120 hr
    have hxo := applyR_ok2 HA.out.ok HB.out.ok
    rw [hr] at hI5 hxo
    rw [hr]
    simp only at hI5 hxo ⊢
    obtain ⟨A5, c5, rfl, hr5⟩ := hI5.rowsArg hxo
    have HI5 := Lib.hid hI5
    have HR5 := Lib.hid hr5
    have HMX : Hid (rs.length ≤ 60) := mayD_len hmx
    have h120' : (b.length : Int) ≤ 120 := by omega
    clear hI5 hr5 hmx hbk hr hxo h120 hb'
    go_wp2_with fail
    refine (invert_in c' HI5.out (HB.out.after HI5.out.below0) HAD.out HLB.out).mono ?_
    rintro e w6 ⟨v6, rfl, hI6, hb6⟩
    obtain ⟨A6, c6, rfl, hc6, hA6⟩ := hI6.chgsArg (invD_ok HB.out.ok)
    have HI6 := Lib.hid hI6
    have HC6 := Lib.hid hc6
    have HR6 := Lib.hid (HR5.out.after hb6)
    clear hI6 hc6 hA6 hb6 HI5 HR5
    go_wp2_with fail
    refine (apply_in c5 c6 HI6.out HR6.out HC6.out).mono ?_
    rintro e w7 ⟨y, rfl, hI7, _⟩
    rw [HBK.out] at hI7
    rw [HBK.out]
    simp only at hI7 ⊢
    obtain ⟨A7, c7, rfl, hr7⟩ := hI7.rowsArg HA.out.ok
    have HI7 := Lib.hid hI7
    have HE := Lib.hid (eqRows_any c7 c hr7 (HA.out.after hI7.below0))
    have hd : decide (a = a) = true := by simp
    rw [hd] at HE
    clear hI7 hr7 hd HI6 HC6 HR6
    go_wp2_with fail
    refine HE.out.mono ?_
    rintro e w8 ⟨rfl, hb8⟩
    have HB8 := Lib.hid (HI7.out.below0.trans (hb8.mono HI7.out.below0.size))
    clear hb8 HE
    go_wp2_with fail
    go_ret
    exact ⟨rfl, HB8.out⟩
  · rw [hr] at hI5
    rw [hr]
    simp only at hI5 ⊢
    obtain ⟨A5, c5, rfl, _⟩ := hI5.rowsArg (by simp)
    have HB5 := Lib.hid hI5.below0
    have he1 : (er != 0) = true := by simpa using he0
    clear hI5 hr he0 he
    go_wp2_with fail
    go_ret
    exact ⟨rfl, HB5.out⟩

theorem In.appendC {G : Nat → Prop} {w0 w w' : World} {l : List Assn} {v v' : Value} {cs ds : List Chg} (h : In G w0 (RowC v cs :: l) w) (ho : w'.ownsRow 0 72 20 v' (cs.length + ds.length) (cs.flatMap cC ++ ds.flatMap cC)) (hg : w.grownBy w' v.ownBlock)
    (hor : v'.ownBlock = v.ownBlock ∨ v'.ownBlock = some w.heap.size) : In G w0 (RowC v' (cs ++ ds) :: l) w' := by
  have h1 := h.appendN ho hg hor
  rw [← List.flatMap_append, ← List.length_append] at h1
  exact h1
set_option maxHeartbeats 4000000 in
set_option maxRecDepth 100000 in
theorem diffThrough_any (A : Option Addr) (c : Nat) (a : List RowD) (A' : Option Addr) (c' : Nat) (b : List RowD) (A'' : Option Addr) (c'' : Nat) (d : List RowD) (w : World) (ha : RowsArg w A a) (hb : RowsArg w A' b) (hc : RowsArg w A'' d) :
    Calls Try.prog 12 #[.slice A a.length c, .slice A' b.length c', .slice A'' d.length c''] w fun e w' => e = .returned (.bool true) ∧ Below w.heap.size w w' := by
  have HA := Lib.hid ha
  have HB := Lib.hid hb
  have HC := Lib.hid hc
  clear ha hb hc
  obtain ⟨i0, hi0, hz0, hz1, hz2⟩ := info_parts change_parts
  go_enter Try.func12, Try.ntmps12
  go_wp2_with fail
  refine (differed_any w).mono ?_
  rintro e w1 ⟨rfl, hb1⟩
  have HI1 : Hid (In (fun _ => False) w [] w1) := (In.nil w _).below hb1
  clear hb1
  go_wp2_with fail
  refine (between_in c c' HI1.out (HA.out.after HI1.out.below0) (HB.out.after HI1.out.below0)).mono ?_
  rintro e w2 ⟨v2, rfl, hI2, _⟩
  obtain ⟨A2, c2, rfl, _, _⟩ := hI2.chgsArg (betweenR_ok2 HA.out.ok HB.out.ok)
  have HI2 := Lib.hid hI2
  have HL2 : Hid ((betweenR a b).1.length ≤ 120) := betweenR_len
  have hl2 : ((betweenR a b).1.length : Int) ≤ 120 := by have := HL2.out; omega
  clear hI2 HI1
  go_wp2_with fail
  refine (between_in c' c'' HI2.out (HB.out.after HI2.out.below0) (HC.out.after HI2.out.below0)).mono ?_
  rintro e w3 ⟨v3, rfl, hI3, _⟩
  obtain ⟨A3, c3, rfl, _, _⟩ := hI3.chgsArg (betweenR_ok2 HB.out.ok HC.out.ok)
  have HI3 := Lib.hid hI3
  have HL3 : Hid ((betweenR b d).1.length ≤ 120) := betweenR_len
  have hl3 : ((betweenR b d).1.length : Int) ≤ 120 := by have := HL3.out; omega
  clear hI3 HI2
  rcases betweenR_cases a b with ⟨hma, hmb, hr⟩ | hr
  rotate_left
  · have h1 : (betweenR a b).2 = 4 := by rw [hr]
    clear hr
    go_wp2_with fail
    go_ret
    exact ⟨rfl, HI3.out.below0⟩
  rcases betweenR_cases b d with ⟨_, hmd, hs⟩ | hs
  rotate_left
  · have h1 : (betweenR a b).2 = 0 := by rw [hr]
    have h2 : (betweenR b d).2 = 4 := by rw [hs]
    clear hr hs
    go_wp2_with fail
    go_ret
    exact ⟨rfl, HI3.out.below0⟩
  have HT := Lib.hid (fun h => diff_through hma hmb hmd h)
  have HOK : Hid (∀ x ∈ between a b ++ between b d, ChgOk x) := by
    have h1 := betweenR_ok2 HA.out.ok HB.out.ok
    have h2 := betweenR_ok2 HB.out.ok HC.out.ok
    rw [hr] at h1
    rw [hs] at h2
    exact fun x hx => by rcases List.mem_append.1 hx with h | h; exact h1 x h; exact h2 x h
  rw [hr] at HI3 hl2 HL2
  rw [hr]
  rw [hs] at HI3 hl3 HL3
  rw [hs]
  simp only at HI3 hl2 HL2 hl3 HL3 ⊢
  clear hr hs hma hmb hmd
  generalize between a b = x at *
  generalize between b d = y at *
  have hadd : IntKind.i64.wrap ((x.length : Int) + (y.length : Int)) = (x.length : Int) + (y.length : Int) := IntWalk.i64_in _ (by omega)
  by_cases hlen : x.length + y.length ≤ 120
  · have HT2 := Lib.hid (HT.out hlen)
    have hlen' : (x.length : Int) + (y.length : Int) ≤ 120 := by omega
    have HI4 : Hid (In (fun _ => False) w [RowC (.slice none 0 0) [], RowC (.slice A3 y.length c3) y, RowC (.slice A2 x.length c2) x] w3) := HI3.out.nilRow 72 20
    have h1c : ∀ (zs : List Chg), ∀ u ∈ zs.flatMap cC, u.oneCell' = true := fun zs u hu => by
      obtain ⟨z, _, hz⟩ := List.mem_flatMap.1 hu
      obtain ⟨q, _, rfl⟩ := List.mem_map.1 hz
      rfl
    have H1C := Lib.hid h1c
    have HLE := Lib.hid hlen
    clear h1c HT hlen
    go_wp2_with (at_builtin; go_loud (refine wpList_append_row rfl _ _ 67 rfl 72 i0 _ 20 160 Try.underlying67 hi0 hz0 hz1 hz2 rfl (by decide) rfl rfl HI4.out.rowAt HI4.out.third.rowAt (H1C.out x) ?_ ?_ ?_))
    case refine_1 => have := HLE.out; simp only [List.length_nil]; unfold maxLen; omega
    case refine_2 => have := HLE.out; simp only [List.length_nil]; omega
    intro v5 w5 ho hg hor
    have HI5 : Hid (In (fun _ => False) w [RowC v5 ([] ++ x), RowC (.slice A3 y.length c3) y, RowC (.slice A2 x.length c2) x] w5) := In.appendC (cs := []) (ds := x) HI4.out (by rw [List.length_nil, Nat.zero_add, List.flatMap_nil, List.nil_append]; exact ho) hg hor
    rw [List.nil_append] at HI5
    clear ho hg hor HI4
    go_wp2_with (at_builtin; go_loud (refine wpList_append_row rfl _ _ 67 rfl 72 i0 _ 20 160 Try.underlying67 hi0 hz0 hz1 hz2 rfl (by decide) rfl rfl HI5.out.rowAt HI5.out.swap.rowAt (H1C.out y) ?_ ?_ ?_))
    case refine_1 => have := HLE.out; unfold maxLen; omega
    case refine_2 => have := HLE.out; omega
    intro v6 w6 ho hg hor
    have hI6 : In (fun _ => False) w [RowC v6 (x ++ y), RowC (.slice A3 y.length c3) y, RowC (.slice A2 x.length c2) x] w6 := In.appendC (cs := x) (ds := y) HI5.out ho hg hor
    obtain ⟨A6, c6, rfl, hc6, _⟩ := hI6.chgsArg HOK.out
    have HI6 := Lib.hid hI6
    have HC6 := Lib.hid hc6
    have HAP := Lib.hid (apply_in c c6 HI6.out (HA.out.after HI6.out.below0) HC6.out)
    rw [HT2.out, List.length_append] at HAP
    clear ho hg hor HI5 hI6 hc6
    go_wp2_with fail
    refine HAP.out.mono ?_
    rintro e w7 ⟨v7, rfl, hI7, _⟩
    simp only at hI7 ⊢
    obtain ⟨A7, c7, rfl, hr7⟩ := hI7.rowsArg HC.out.ok
    have HI7 := Lib.hid hI7
    have HE := Lib.hid (eqRows_any c7 c'' hr7 (HC.out.after hI7.below0))
    rw [show decide (d = d) = true from by simp] at HE
    clear hI7 hr7 HI6 HC6 HAP
    go_wp2_with fail
    refine HE.out.mono ?_
    rintro e w8 ⟨rfl, hb8⟩
    have HB8 := Lib.hid (HI7.out.below0.trans (hb8.mono HI7.out.below0.size))
    clear hb8 HE
    go_wp2_with fail
    go_ret
    exact ⟨rfl, HB8.out⟩
  · have hlen' : (120 : Int) < (x.length : Int) + (y.length : Int) := by omega
    clear hlen
    go_wp2_with fail
    go_ret
    exact ⟨rfl, HI3.out.below0⟩

end Go.Proofs.Ytpgdobomcdpdbaa

/-
  The walk of the law DiffLeast.
-/
namespace Go.Proofs.Ytpgdobomcdpdbaa
open Go.RowKit

def ChainAt (cs : List Chg) : Prop := ∀ (k : Nat) (h : k < cs.length),
    cs[k].old ≠ cs[k].now ∧ ∀ j (hj : k = j + 1), (cs[j]'(by omega)).at_.1 < cs[k].at_.1 ∨ ((cs[j]'(by omega)).at_.1 = cs[k].at_.1 ∧ (cs[j]'(by omega)).at_.2 < cs[k].at_.2)
theorem between_chain (a b : List RowD) (hm : mayD a = true) : ChainAt (between a b) := fun k h => by
  refine ⟨(mem_between (List.getElem_mem h)).2.1, fun j hj => ?_⟩
  have h1 := List.pairwise_iff_getElem.1 (between_lt (x := a) (y := b) (mayD_nodup hm)) j k (by omega) h (by omega)
  unfold hLt at h1
  simpa using h1
set_option maxHeartbeats 4000000 in
set_option maxRecDepth 100000 in
theorem diffLeast_any (A : Option Addr) (c : Nat) (a : List RowD) (A' : Option Addr) (c' : Nat) (b : List RowD) (w : World) (ha : RowsArg w A a) (hb : RowsArg w A' b) :
    Calls Try.prog 11 #[.slice A a.length c, .slice A' b.length c'] w fun e w' => e = .returned (.bool true) ∧ Below w.heap.size w w' := by
  have HA := Lib.hid ha
  have HB := Lib.hid hb
  clear ha hb
  go_enter Try.func11, Try.ntmps11
  go_wp2_with fail
  refine (differed_any w).mono ?_
  rintro e w1 ⟨rfl, hb1⟩
  have HI1 : Hid (In (fun _ => False) w [] w1) := (In.nil w _).below hb1
  clear hb1
  go_wp2_with fail
  refine (between_in c c' HI1.out (HA.out.after HI1.out.below0) (HB.out.after HI1.out.below0)).mono ?_
  rintro e w2 ⟨v, rfl, hI2, _⟩
  rcases betweenR_cases a b with ⟨hma, hmb, hr⟩ | hr
  rotate_left
  · rw [hr] at hI2
    rw [hr]
    have HB2 := Lib.hid hI2.below0
    clear hr hI2
    simp only
    go_wp2_with fail
    go_ret
    exact ⟨rfl, HB2.out⟩
  have HCH := Lib.hid (between_chain a b hma)
  have hla : (a.length : Int) ≤ 60 := by have := mayD_len hma; omega
  have hlb : (b.length : Int) ≤ 60 := by have := mayD_len hmb; omega
  have HLE : Hid (((between a b).length : Int) ≤ (a.length : Int) + (b.length : Int)) := by have := between_len (x := a) (y := b); unfold Hid; omega
  have HOK := betweenR_ok2 HA.out.ok HB.out.ok
  rw [hr] at hI2 HOK
  rw [hr]
  simp only at hI2 HOK ⊢
  obtain ⟨A2, c2, rfl, hc1, hc2, hA2⟩ := own_form hI2.rowAt
  have HOK := Lib.hid HOK
  have hl120 : ((between a b).length : Int) ≤ 120 := by have := between_120 hma hmb; omega
  have HI2 := Lib.hid hI2
  have HA2 := Lib.hid hA2
  clear hma hmb hr hI2 hA2 hc1 hc2 HI1
  generalize between a b = cs at *
  have hadd : IntKind.i64.wrap ((a.length : Int) + (b.length : Int)) = (a.length : Int) + (b.length : Int) := IntWalk.i64_in _ (by omega)
  go_wp2_with fail
  go_loopw [21] (fun i w' => ∃ k : Nat, k ≤ cs.length ∧ i = .int .i64 k ∧ In (fun _ => False) w [RowC (.slice A2 cs.length c2) cs] w') (fun i _ => cs.length - (intOf i).toNat)
  case atStart => exact ⟨0, by omega, rfl, HI2.out⟩
  case round =>
    clear HI2
    obtain ⟨k, hk, rfl, hI⟩ := hrel
    have HI := Lib.hid hI
    clear hI
    by_cases hlt : k < cs.length
    · have hki : (k : Int) < cs.length := by omega
      obtain ⟨g, rfl⟩ := HA2.out (by omega)
      have hrow := HI.out.chg hlt
      obtain ⟨hne, hch⟩ := HCH.out k hlt
      have HPREV : Hid (∀ j, k = j + 1 → ∃ p q : Int, (∀ n : After wr, n.w.cell? ⟨g, j * 20, none⟩ = some (.int .i64 p)) ∧ (∀ n : After wr, n.w.cell? ⟨g, j * 20 + 1, none⟩ = some (.int .i64 q)) ∧ (p < cs[k].at_.1 ∨ (p = cs[k].at_.1 ∧ q < cs[k].at_.2))) := by
        intro j hj
        have hjl : j < cs.length := by omega
        have h1 := HI.out.chg hjl
        refine ⟨cs[j].at_.1, cs[j].at_.2, fun n => ?_, fun n => ?_, hch j hj⟩
        · have h2 := row_after n.below h1
          unfold cL at h2
          exact cell_of_rowInts h2
        · have h2 := row_after n.below h1
          have h3 := row_part h2 1 19 (by omega)
          unfold cL at h3
          simp only [List.drop_succ_cons, List.drop_zero, List.take_succ_cons] at h3
          exact cell_of_rowInts h3
      have hco := HOK.out _ (List.getElem_mem hlt)
      generalize hrk : cs[k] = x at *
      clear hrk hch
      have hrl := cL_len x
      have HRE := Lib.hid (cL_eq hco)
      obtain ⟨⟨s, t⟩, ox, oy⟩ := x
      have x9 : ox.length = 9 := hco.1
      have y9 : oy.length = 9 := hco.2
      clear hco
      simp only at HRE HPREV hne
      rw [HRE.out] at hrl hrow
      go_upto_region 9 with (fail)
      refine wp_abs (fun w' => Blk w' wr.heap.size 72 (ints (s :: t :: (ox ++ oy))) ∧ Below wr.heap.size wr w') ⟨blk_new_put wr 72 [0, 0, 0, 0, 0, 0, 0, 0, 0, 0, 0, 0, 0, 0, 0, 0, 0, 0, 0, 0] _ hrl, below_new_put wr 72 [0, 0, 0, 0, 0, 0, 0, 0, 0, 0, 0, 0, 0, 0, 0, 0, 0, 0, 0, 0] _⟩ ?_
      rintro w3 ⟨hx, hb3⟩
      have HI3 := Lib.hid (HI.out.below hb3)
      have c0 : ∀ n : After w3, n.w.cell? ⟨wr.heap.size, 0, none⟩ = some (.int .i64 s) := fun n => (hx.after n.below).cell 0
      have c1 : ∀ n : After w3, n.w.cell? ⟨wr.heap.size, 1, none⟩ = some (.int .i64 t) := fun n => (hx.after n.below).cell 1
      have c2 : ∀ n : After w3, row? n.w wr.heap.size 2 9 = some (ints ox) := fun n => by rw [(hx.after n.below).row_ints 2 9 (by rw [hrl]; omega)]; simp [← x9]
      have c3 : ∀ n : After w3, row? n.w wr.heap.size 11 9 = some (ints oy) := fun n => by rw [(hx.after n.below).row_ints 11 9 (by rw [hrl]; omega)]; simp only [List.drop_succ_cons]; rw [List.drop_left' x9, List.take_of_length_le (by omega)]
      have HPREV : Hid (∀ j, k = j + 1 → ∃ p q : Int, (∀ n : After w3, n.w.cell? ⟨g, j * 20, none⟩ = some (.int .i64 p)) ∧ (∀ n : After w3, n.w.cell? ⟨g, j * 20 + 1, none⟩ = some (.int .i64 q)) ∧ (p < s ∨ (p = s ∧ q < t))) := by
        intro j hj
        obtain ⟨p, q, h1, h2, h3⟩ := HPREV.out j hj
        exact ⟨p, q, fun n => h1 ⟨n.w, hb3.trans (n.below.mono hb3.size)⟩, fun n => h2 ⟨n.w, hb3.trans (n.below.mono hb3.size)⟩, h3⟩
      have hn : ∀ W, (binOp .eql 39 (.agg (ints ox)) (.agg (ints oy))).run Try.prog W = .ok (.bool false) W := fun W => by
        rw [eql_beast ox oy x9 y9 W, show decide (ox = oy) = false from by simpa using hne]
      generalize wr.heap.size = xb at *
      clear hx hb3 hrow hrl hne HI
      cases k with
      | zero =>
        refine wp_region_after (by kernel_rfl) (by kernel_rfl) ?_
        repeat (go_big_quiet_step (fail))
        refine wpQuiet_nil ?_
        rintro _ ⟨n, rfl⟩
        have HI4 := Lib.hid (HI3.out.below n.below)
        clear c0 c1 c2 c3 hn
        go_wp2_with fail
        go_roundw
        case rel => exact ⟨1, by omega, by go_num, HI4.out⟩
        case measure => simp [intOf]; omega
      | succ j =>
        obtain ⟨p, q, c4, c5, hcmp⟩ := HPREV.out j rfl
        have hsub : IntKind.i64.wrap ((j : Int) + 1 - 1) = j := by rw [show (j : Int) + 1 - 1 = j from by omega]; exact IntWalk.i64_in _ (by omega)
        have hj0 : (0 : Int) < (j : Int) + 1 := by omega
        have hjl : (j : Int) < cs.length := by omega
        by_cases e : p = s
        · have hq : decide (t ≤ q) = false := decide_eq_false (by omega)
          clear hcmp
          have hss : (s == p) = true := by simpa using e.symm
          have hsl : decide (s < p) = false := decide_eq_false (by omega)
          clear e
          refine wp_region_after (by kernel_rfl) (by kernel_rfl) ?_
          repeat (go_big_quiet_step (fail))
          refine wpQuiet_nil ?_
          rintro _ ⟨n, rfl⟩
          have HI4 := Lib.hid (HI3.out.below n.below)
          clear c0 c1 c2 c3 c4 c5 hn
          go_wp2_with fail
          go_roundw
          case rel => exact ⟨j + 1 + 1, by omega, by go_num, HI4.out⟩
          case measure => simp [intOf]; omega
        · have hp : p < s := by omega
          have hss : (s == p) = false := by simp; omega
          have hsl : decide (s < p) = false := decide_eq_false (by omega)
          clear hcmp e
          refine wp_region_after (by kernel_rfl) (by kernel_rfl) ?_
          repeat (go_big_quiet_step (fail))
          refine wpQuiet_nil ?_
          rintro _ ⟨n, rfl⟩
          have HI4 := Lib.hid (HI3.out.below n.below)
          clear c0 c1 c2 c3 c4 c5 hn
          go_wp2_with fail
          go_roundw
          case rel => exact ⟨j + 1 + 1, by omega, by go_num, HI4.out⟩
          case measure => simp [intOf]; omega
    · have hki : (cs.length : Int) ≤ k := by omega
      have hle := HLE.out
      go_wp2_with fail
      go_ret
      exact ⟨rfl, HI.out.below0⟩

end Go.Proofs.Ytpgdobomcdpdbaa
