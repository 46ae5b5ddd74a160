/-
  Several texts in one (merged by a program of mine): TableCol, SlotLaws, FamOps, FamGone, FamLoosen, TableMem, TableRow, RowSlice, TableRow2, TableRemove.
-/
import Derived.Test.YtpgcghnlepnoiaaGreatDoorTP21
import Derived.BigRegion
import Derived.BigQuiet
import Derived.Deep.DeepCutAuto
import Derived.StillTailTactics
set_option linter.unusedVariables false
set_option linter.unusedSimpArgs false
set_option linter.unusedSectionVars false
/-
  Contracts of the columns' methods.
-/
namespace Go.Proofs.YtpgcghnlepnoiaaGreatDoor
open Go.RowKit

theorem own_cut {w : World} {B : Nat} {e : TypeId} {size n c m : Nat} {A : Option Addr} {xs : List Value} (h : w.ownsRow B e size (.slice A n c) n xs) (hm : m ≤ n) : w.ownsRow B e size (.slice A m c) m (xs.take (m * size)) := by
  obtain ⟨h1, h2⟩ := h
  have hle : m * size ≤ n * size := Nat.mul_le_mul_right _ hm
  refine ⟨by rw [List.length_take]; omega, ?_⟩
  rcases h2 with ⟨e1, h0⟩ | ⟨g, cap, cur, e1, hb, hg, h3, h4, h5, h6⟩
  · injection e1 with e1 e2 e3
    have : m = 0 := by omega
    subst this
    exact Or.inl ⟨by rw [e1, e3], rfl⟩
  · injection e1 with e1 e2 e3
    subst e3
    refine Or.inr ⟨g, c, cur, by rw [e1], hb, hg, by omega, h4, h5, ?_⟩
    rw [← h6, List.take_take, Nat.min_eq_left hle]
theorem flat_take {α : Type} {size : Nat} {f : α → List Value} (hf : ∀ x, (f x).length = size) : ∀ (l : List α) (k : Nat), (l.flatMap f).take (k * size) = (l.take k).flatMap f
  | [], k => by simp
  | a :: l, 0 => by simp
  | a :: l, k + 1 => by
    rw [List.flatMap_cons, List.take_succ_cons, List.flatMap_cons, List.take_append, hf, Nat.add_mul, Nat.one_mul, List.take_of_length_le (by rw [hf]; omega), Nat.add_sub_cancel, flat_take hf l k]
theorem flat_drop {α : Type} {size : Nat} {f : α → List Value} (hf : ∀ x, (f x).length = size) : ∀ (l : List α) (k : Nat), (l.flatMap f).drop (k * size) = (l.drop k).flatMap f
  | [], k => by simp
  | a :: l, 0 => by simp
  | a :: l, k + 1 => by
    rw [List.flatMap_cons, List.drop_succ_cons, List.drop_append, hf, Nat.add_mul, Nat.one_mul, List.drop_of_length_le (by rw [hf]; omega), Nat.add_sub_cancel, flat_drop hf l k, List.nil_append]
/-- a row written over -/
theorem own_put {α : Type} {enc : α → List Int} {w : World} {B : Nat} {e : TypeId} {size c g k : Nat} {rows : List α} (hs : ∀ x, (enc x).length = size)
    (h : w.ownsRow B e size (.slice (some ⟨g, 0, none⟩) rows.length c) rows.length (rows.flatMap fun x => (enc x).map (Value.int .i64))) (hk : k < rows.length) (x : α) :
    (putRow w g (k * size) (enc x)).ownsRow B e size (.slice (some ⟨g, 0, none⟩) rows.length c) rows.length ((rows.set k x).flatMap fun x => (enc x).map (Value.int .i64)) := by
  have hsz : ∀ x : α, ((enc x).map (Value.int .i64)).length = size := fun x => by rw [List.length_map, hs]
  obtain ⟨h1, h2⟩ := h
  refine ⟨by rw [flat_len hsz, List.length_set], ?_⟩
  rcases h2 with ⟨e1, h0⟩ | ⟨g', cap, cur, e1, hb, hg, h3, h4, h5, h6⟩
  · omega
  · injection e1 with e1 e2 e3
    injection e1 with e1
    injection e1 with e1
    subst e1; subst e3
    have hle : (k + 1) * size ≤ rows.length * size := Nat.mul_le_mul_right _ (by omega)
    have hle2 : rows.length * size ≤ c * size := Nat.mul_le_mul_right _ h3
    rw [Nat.add_mul, Nat.one_mul] at hle
    refine Or.inr ⟨g, c, (cur.toList.take (k * size) ++ (enc x).map (Value.int .i64) ++ cur.toList.drop (k * size + (enc x).length)).toArray, rfl, hb, ?_, h3, h4, ?_, ?_⟩
    · simp [putRow, Array.getElem?_modify, hg]
    · simp [hs]; omega
    · rw [List.toList_toArray]
      have hx := hsz x
      have hl1 : (cur.toList.take (k * size)).length = k * size := by rw [List.length_take]; simp; omega
      have e2 : rows = rows.take k ++ rows[k] :: rows.drop (k + 1) := by rw [← List.drop_eq_getElem_cons, List.take_append_drop]
      have e3 : rows.set k x = rows.take k ++ x :: rows.drop (k + 1) := by
        conv => lhs; rw [e2]
        rw [List.set_append_right _ _ (by rw [List.length_take]; omega), List.length_take, Nat.min_eq_left (by omega), Nat.sub_self]; rfl
      have e4 : (rows.take k).flatMap (fun x => (enc x).map (Value.int .i64)) = cur.toList.take (k * size) := by
        have : cur.toList.take (k * size) = (cur.toList.take (rows.length * size)).take (k * size) := by rw [List.take_take, Nat.min_eq_left (by omega)]
        rw [this, h6, flat_take hsz]
      have e5 : (rows.drop (k + 1)).flatMap (fun x => (enc x).map (Value.int .i64)) = (cur.toList.drop (k * size + size)).take ((rows.length - (k + 1)) * size) := by
        have : (cur.toList.drop (k * size + size)).take ((rows.length - (k + 1)) * size) = (cur.toList.take (rows.length * size)).drop ((k + 1) * size) := by
          rw [List.drop_take, Nat.add_mul, Nat.one_mul]
          congr 1
          rw [Nat.sub_mul, Nat.add_mul, Nat.one_mul]
        rw [this, h6, flat_drop hsz]
      rw [e3, List.flatMap_append, List.flatMap_cons, e4, e5, ← List.append_assoc]
      generalize cur.toList.take (k * size) = P at hl1 ⊢
      generalize (enc x).map (Value.int .i64) = X at hx ⊢
      have hPX : (P ++ X).length = k * size + size := by rw [List.length_append, hl1, hx]
      rw [List.take_append, List.take_of_length_le (by rw [hPX]; omega), hPX, hs]
      congr 1
      congr 1
      rw [Nat.sub_mul, Nat.add_mul, Nat.one_mul]

theorem own_fits {w : World} {B : Nat} {e : TypeId} {size n c g k : Nat} {xs : List Value} (h : w.ownsRow B e size (.slice (some ⟨g, 0, none⟩) n c) n xs) (hk : k < n) : fits w g (k * size) size = true := by
  obtain ⟨h1, h2 | ⟨g', cap, cur, e1, _, hg, h3, _, h5, h6⟩⟩ := h
  · cases h2.1
  · injection e1 with e1 e2 e3
    injection e1 with e1
    injection e1 with e1
    subst e1
    unfold fits
    rw [hg]
    have hle : (k + 1) * size ≤ cap * size := Nat.mul_le_mul_right _ (by omega)
    rw [Nat.add_mul, Nat.one_mul] at hle
    simp; omega
/-- a slice in a cell of block p, behind a method that appended to it -/
def AddEnd (w w' : World) (p : Nat) (T : TypeId) (cs : Array Value) (o : Nat) (v : Value) (E : TypeId) (size n : Nat) (xs : List Value) : Prop :=
  ∃ v', Blk w' p T (cs.setIfInBounds o v') ∧ w'.ownsRow 0 E size v' n xs ∧ v'.ownBlock ≠ some p ∧ (∀ k, v'.ownBlock = some k → v.ownBlock = some k ∨ w.heap.size ≤ k) ∧ Only (fun k => k = p ∨ v.ownBlock = some k) w w'

theorem add_end {w w3 : World} {p o n size : Nat} {T E : TypeId} {cs : Array Value} {v v' : Value} {O : Obj} {xs : List Value} (hB : Blk w p T cs) (hne : v.ownBlock ≠ some p) (hown3 : w3.ownsRow 0 E size v' n xs) (hg3 : (w.alloc O).grownBy w3 v.ownBlock)
    (hat : v'.ownBlock = v.ownBlock ∨ v'.ownBlock = some (w.heap.size + 1)) : Blk w3 p T cs ∧ AddEnd w (w3.setCell ⟨p, o, none⟩ v') p T cs o v E size n xs := by
  have hO3 : Only (fun k => v.ownBlock = some k) w w3 := (Only.refl.alloc _).trans (Only.grown hg3 fun k hk => hk)
  have hB3 := hO3.blk hB hne
  have hN3 : v'.ownBlock ≠ some p := by
    rcases hat with e | e
    · rw [e]; exact hne
    · rw [e]; intro h; injection h with h; have := hB.lt; omega
  refine ⟨hB3, v', hB3.set o v', ownsRow_setCell_other hown3 hN3 _, hN3, fun k hk => ?_, (hO3.mono (G := fun k => k = p ∨ v.ownBlock = some k) fun k _ hk => Or.inr hk).setCell (Or.inl (Or.inl rfl)) _ _⟩
  rcases hat with e | e
  · rw [e] at hk; exact Or.inl hk
  · rw [e] at hk; injection hk with hk; exact Or.inr (by omega)

theorem int_parts : (Tryz.prog.info? 3).map (fun i => (i.zero, i.size, i.bytes)) = some (some (.int .i64 0), 1, 8) := by kernel_rfl
theorem handle_parts2 : (Tryz.prog.info? 46).map (fun i => (i.zero, i.size, i.bytes)) = some (some (.agg #[.int .i64 0, .int .i64 0]), 2, 16) := by kernel_rfl

theorem addI_any (p o : Nat) (T : TypeId) (cs : Array Value) (v : Value) (n : Nat) (xs : List Value) (x : Int) (w : World) (hB : Blk w p T cs) (hv : cs[o]? = some v) (ho : w.ownsRow 0 3 1 v n xs) (hne : v.ownBlock ≠ some p) (hl : n ≤ 100000) :
    Calls Tryz.prog 154 #[.pointer (some ⟨p, o, none⟩), .int .i64 x] w fun e w' => e = .returned (.tuple #[]) ∧ AddEnd w w' p T cs o v 3 1 (n + 1) (xs ++ [.int .i64 x]) := by
  obtain ⟨A, c, rfl, hc1, hc2, _⟩ := own_form ho
  have HO := Lib.hid ho
  have HB := Lib.hid hB
  have HN := Lib.hid hne
  have c1 : w.cell? ⟨p, o, none⟩ = some (.slice A n c) := (hB.cell o).trans hv
  obtain ⟨i0, hi0, hz0, hz1, hz2⟩ := info_parts int_parts
  clear ho hB hne hv
  go_enter Tryz.func154, Tryz.ntmps154
  go_wp2_with (at_builtin; refine wpList_append1_at rfl _ _ _ rfl 0 3 i0 _ 1 8 Tryz.underlying22 hi0 hz0 hz1 hz2 rfl (by decide) (.slice A n c) n xs rfl HO.out [.int .i64 x] rfl rfl (by simp [Value.oneCell']) (by unfold maxLen; omega) (by omega) (Nat.zero_le _) ?_)
  intro v' w3 hown3 hg3 hat
  obtain ⟨A4, c4, rfl, _, _, _⟩ := own_form hown3
  obtain ⟨hB3, hE⟩ := add_end (o := o) HB.out HN.out hown3 hg3 hat
  have HE := Lib.hid hE
  have c2 : w3.frozen? ⟨p, o, none⟩ = false := hB3.frozen o
  have c3 : w3.cell? ⟨p, o, none⟩ = some (.slice A n c) := (hB3.cell o).trans ((HB.out.cell o).symm.trans c1)
  clear hE hB3 hown3 hg3 hat
  go_wp2_with fail
  go_end0
  exact ⟨rfl, HE.out⟩

theorem addH_any (p o : Nat) (T : TypeId) (cs : Array Value) (v : Value) (n : Nat) (xs : List Value) (a b : Int) (w : World) (hB : Blk w p T cs) (hv : cs[o]? = some v) (ho : w.ownsRow 0 46 2 v n xs) (hne : v.ownBlock ≠ some p) (hl : n ≤ 100000) :
    Calls Tryz.prog 153 #[.pointer (some ⟨p, o, none⟩), .agg #[.int .i64 a, .int .i64 b]] w fun e w' => e = .returned (.tuple #[]) ∧ AddEnd w w' p T cs o v 46 2 (n + 1) (xs ++ [.int .i64 a, .int .i64 b]) := by
  obtain ⟨A, c, rfl, hc1, hc2, _⟩ := own_form ho
  have HO := Lib.hid ho
  have HB := Lib.hid hB
  have HN := Lib.hid hne
  have c1 : w.cell? ⟨p, o, none⟩ = some (.slice A n c) := (hB.cell o).trans hv
  obtain ⟨i0, hi0, hz0, hz1, hz2⟩ := info_parts handle_parts2
  clear ho hB hne hv
  go_enter Tryz.func153, Tryz.ntmps153
  go_upto_region 1 with (fail)
  have hpl := HB.out.lt
  refine wp_abs (fun w' => Blk w' w.heap.size 46 (ints [a, b]) ∧ Below w.heap.size w w') ⟨Blk.new _ _ _, (Below.refl _ _).alloc (Nat.le_refl _) _⟩ ?_
  rintro w1 ⟨hb1, hb2⟩
  have r1 : row? w1 w.heap.size 0 2 = some #[.int .i64 a, .int .i64 b] := hb1.row_all rfl
  have HO1 : Hid (w1.ownsRow 0 46 2 (.slice A n c) n xs) := own_below HO.out hb2
  have HB1 : Hid (Blk w1 p T cs) := HB.out.after hb2
  have c1 : w1.cell? ⟨p, o, none⟩ = some (.slice A n c) := (HB1.out.cell o).trans ((HB.out.cell o).symm.trans c1)
  have c1a : (w1.alloc (.cells #[.int .i64 a, .int .i64 b] 46)).cell? ⟨p, o, none⟩ = some (.slice A n c) := (((Below.refl _ w1).alloc (Nat.le_refl _) _).cell (p := ⟨p, o, none⟩) HB1.out.lt).trans c1
  have HBL := Lib.hid hb2
  clear hb1 hb2
  go_region_law (refine step_append1 (w := w1.drew) rfl (.tmp 8) (.tmp 10) 119 rfl 0 46 i0 _ 2 16 Tryz.underlying119 hi0 hz0 hz1 hz2 rfl (by decide) (.slice A n c) n xs (by simp [Act.eval, Act.put]) HO1.out [.int .i64 a, .int .i64 b] (by simp [Act.eval, Act.put]) rfl (by simp [Value.oneCell']) (by unfold maxLen; omega) (by omega) (Nat.zero_le _) ?_; intro v' w3 hown3 hg3 hat; obtain ⟨A4, c4, rfl, _, _, _⟩ := own_form hown3; obtain ⟨hB3, hE⟩ := add_end (w := w1.drew) (o := o) HB1.out.drew HN.out hown3 hg3 hat; have HE := Lib.hid hE; have c2 : w3.frozen? ⟨p, o, none⟩ = false := hB3.frozen o; have c3 : w3.cell? ⟨p, o, none⟩ = some (.slice A n c) := (hB3.cell o).trans ((HB1.out.cell o).symm.trans c1); clear hE hB3 hown3 hg3 hat)
  all_goals
    go_wp2_with fail
    go_end0
    refine ⟨rfl, ?_⟩
    obtain ⟨v', h1, h2, h3, h4, h5⟩ := HE.out
    exact ⟨v', h1, h2, h3, fun k hk => by rcases h4 k hk with h | h; exact Or.inl h; exact Or.inr (Nat.le_trans HBL.out.size h), (Only.of_below HBL.out).trans (Only.refl.drew.trans h5)⟩

theorem removeH_any (p o : Nat) (T : TypeId) (cs : Array Value) (v : Value) (xs : List (Int × Int)) (k : Nat) (w : World) (hB : Blk w p T cs) (hv : cs[o]? = some v) (ho : w.ownsRow 0 46 2 v xs.length (xs.flatMap hC)) (hne : v.ownBlock ≠ some p) (hl : xs.length ≤ 100000) (hk : k < xs.length) :
    Calls Tryz.prog 166 #[.pointer (some ⟨p, o, none⟩), .int .i64 k] w fun e w' => e = .returned (.agg (ints (hL (xs.getD k (0, 0))))) ∧ AddEnd w w' p T cs o v 46 2 (xs.length - 1) (((xs.set k (xs.getD (xs.length - 1) (0, 0))).take (xs.length - 1)).flatMap hC) := by
  obtain ⟨A, c, rfl, hc1, hc2, hA⟩ := own_form ho
  obtain ⟨g, rfl⟩ := hA (by omega)
  obtain ⟨m, hm⟩ : ∃ m, xs.length = m + 1 := ⟨xs.length - 1, by omega⟩
  have hgp : g ≠ p := fun e => hne (by rw [e]; rfl)
  have hkm : (k : Int) < (m : Int) + 1 := by omega
  have hmc : (m : Int) + 1 ≤ c := by omega
  have hcc : (c : Int) ≤ 9223372036854775807 := by unfold maxLen at hc2; omega
  have hgl := (World.ownsRow.lt ho g rfl).2
  have r1 : row? w g (k * 2) 2 = some (ints (hL (xs.getD k (0, 0)))) := by
    rw [own_row ho hk, flat_at hC_len xs k hk]
    simp [List.getD, List.getElem?_eq_getElem hk]; rfl
  have r2 : row? w g (m * 2) 2 = some (ints (hL (xs.getD m (0, 0)))) := by
    rw [own_row ho (show m < xs.length by omega), flat_at hC_len xs m (by omega)]
    simp [List.getD, List.getElem?_eq_getElem (show m < xs.length by omega)]; rfl
  have HB := Lib.hid hB
  have HO := Lib.hid ho
  have HN := Lib.hid hne
  have hp := hB.lt
  have c0 : w.cell? ⟨p, o, none⟩ = some (.slice (some ⟨g, 0, none⟩) (m + 1) c) := by rw [← hm]; exact (hB.cell o).trans hv
  have HM := Lib.hid hm
  have HK := Lib.hid hk
  rw [hm, Nat.add_sub_cancel]
  clear ho hB hne hv hm hl hc1
  generalize hx1 : xs.getD k (0, 0) = x1 at *
  generalize hx2 : xs.getD m (0, 0) = x2 at *
  have HX2 := Lib.hid hx2
  obtain ⟨x1a, x1b⟩ := x1
  obtain ⟨x2a, x2b⟩ := x2
  change row? w g (k * 2) 2 = some (ints [x1a, x1b]) at r1
  change row? w g (m * 2) 2 = some (ints [x2a, x2b]) at r2
  clear hx1 hx2
  go_enter Tryz.func166, Tryz.ntmps166
  go_upto_region 1 with (fail)
  refine wp_abs (fun w' => Blk w' w.heap.size 46 (ints [0, 0]) ∧ Below w.heap.size w w') ⟨Blk.new _ _ _, (Below.refl _ _).alloc (Nat.le_refl _) _⟩ ?_
  rintro w1 ⟨hb1, hb2⟩
  have f1 : fits w1 w.heap.size 0 2 = true := hb1.fits 0 2 (by decide)
  have q1 : row? w1 g (k * 2) 2 = some (ints [x1a, x1b]) := (row_below hb2 hgl _ _).trans r1
  have q2 : row? w1 g (m * 2) 2 = some (ints [x2a, x2b]) := (row_below hb2 hgl _ _).trans r2
  have c1 : w1.cell? ⟨p, o, none⟩ = some (.slice (some ⟨g, 0, none⟩) (m + 1) c) := (hb2.cell (p := ⟨p, o, none⟩) hp).trans c0
  have hkx : k < xs.length := HK.out
  have hown1 : w1.ownsRow 0 46 2 (.slice (some ⟨g, 0, none⟩) xs.length c) xs.length (xs.flatMap hC) := own_below HO.out hb2
  have hgq : g ≠ w.heap.size := by omega
  have hpq : p ≠ w.heap.size := by omega
  have hO1 : Only (· = w.heap.size) w1 (putRow w1 w.heap.size 0 [x1a, x1b]) := Only.putRow _ _ _ _
  have hown2 : (putRow w1 w.heap.size 0 [x1a, x1b]).ownsRow 0 46 2 (.slice (some ⟨g, 0, none⟩) xs.length c) xs.length (xs.flatMap hC) := hO1.own hown1 fun q hq => by simp [Value.ownBlock] at hq; omega
  have f2 : fits w1 g (k * 2) 2 = true := own_fits hown1 hkx
  have hmm : (m : Int) < (m : Int) + 1 := by omega
  have hB2 : Blk (putRow w1 w.heap.size 0 [x1a, x1b]) p T cs := hO1.blk (HB.out.after hb2) hpq
  have c1' : (putRow w1 w.heap.size 0 [x1a, x1b]).cell? ⟨p, o, none⟩ = some (.slice (some ⟨g, 0, none⟩) (m + 1) c) := (hB2.cell o).trans ((HB.out.cell o).symm.trans c0)
  have q2' : row? (putRow w1 w.heap.size 0 [x1a, x1b]) g (m * 2) 2 = some (ints [x2a, x2b]) := by
    unfold row? at q2 ⊢
    rw [hO1.block g (by have := hb2.size; omega) hgq]; exact q2
  have f3 : fits (putRow w1 w.heap.size 0 [x1a, x1b]) g (k * 2) 2 = true := own_fits hown2 hkx
  have HR : Hid (Blk (putRow (putRow w1 w.heap.size 0 [x1a, x1b]) g (k * 2) [x2a, x2b]) w.heap.size 46 (ints [x1a, x1b]) ∧
      (putRow (putRow w1 w.heap.size 0 [x1a, x1b]) g (k * 2) [x2a, x2b]).ownsRow 0 46 2 (.slice (some ⟨g, 0, none⟩) xs.length c) xs.length ((xs.set k (x2a, x2b)).flatMap hC) ∧
      Blk (putRow (putRow w1 w.heap.size 0 [x1a, x1b]) g (k * 2) [x2a, x2b]) p T cs ∧ Only (fun q => q = p ∨ q = g) w (putRow (putRow w1 w.heap.size 0 [x1a, x1b]) g (k * 2) [x2a, x2b])) := by
    refine ⟨(hb1.put_all [x1a, x1b] rfl).put_far _ _ (Ne.symm hgq), ?_, hB2.put_far _ _ (Ne.symm hgp), ?_⟩
    · have := own_put (enc := hL) (fun _ => rfl) hown2 hkx (x2a, x2b)
      exact this
    · refine ((Only.of_below hb2).trans' hO1 fun q hq e => absurd e (by omega)).trans' (Only.putRow _ g _ _) fun q hq e => Or.inr e
  clear hown1 hown2 hO1 hB2
  go_wp2_with fail
  go_region
  clear c1 c1' q1 q2 q2' f1 f2 f3 hb1 hb2
  obtain ⟨h1, h2, h3, h4⟩ : Blk (putRow (putRow w1 w.heap.size 0 [x1a, x1b]) g (k * 2) [x2a, x2b]).drew w.heap.size 46 (ints [x1a, x1b]) ∧
      (putRow (putRow w1 w.heap.size 0 [x1a, x1b]) g (k * 2) [x2a, x2b]).drew.ownsRow 0 46 2 (.slice (some ⟨g, 0, none⟩) xs.length c) xs.length ((xs.set k (x2a, x2b)).flatMap hC) ∧
      Blk (putRow (putRow w1 w.heap.size 0 [x1a, x1b]) g (k * 2) [x2a, x2b]).drew p T cs ∧ Only (fun q => q = p ∨ q = g) w (putRow (putRow w1 w.heap.size 0 [x1a, x1b]) g (k * 2) [x2a, x2b]).drew :=
    ⟨HR.out.1, HR.out.2.1, HR.out.2.2.1, HR.out.2.2.2.drew⟩
  clear HR
  generalize (putRow (putRow w1 w.heap.size 0 [x1a, x1b]) g (k * 2) [x2a, x2b]).drew = w4 at *
  have c4 : w4.cell? ⟨p, o, none⟩ = some (.slice (some ⟨g, 0, none⟩) (m + 1) c) := (h3.cell o).trans ((HB.out.cell o).symm.trans c0)
  have c5 : w4.frozen? ⟨p, o, none⟩ = false := h3.frozen o
  have hl := h1.far (g' := p) (Ne.symm hpq) o (.slice (some ⟨g, 0, none⟩) m c)
  have c6 : row? (w4.setCell ⟨p, o, none⟩ (.slice (some ⟨g, 0, none⟩) m c)) w.heap.size 0 2 = some (ints [x1a, x1b]) := hl.row_all rfl
  have c7 : fits (w4.setCell ⟨p, o, none⟩ (.slice (some ⟨g, 0, none⟩) m c)) w.heap.size 0 2 = true := hl.fits 0 2 (by rw [ints_size]; exact Nat.le_refl 2)
  have hN : (Value.slice (some ⟨g, 0, none⟩) (m + 1) c).ownBlock ≠ some p := HN.out
  have h2b : w4.ownsRow 0 46 2 (.slice (some ⟨g, 0, none⟩) m c) m (((xs.set k (x2a, x2b)).take m).flatMap hC) := by
    have := own_cut h2 (m := m) (by have := HM.out; omega)
    rwa [flat_take hC_len] at this
  have h2c := ownsRow_setCell_other (a := ⟨p, o, none⟩) h2b hN (.slice (some ⟨g, 0, none⟩) m c)
  have hO2 : Only (· = w.heap.size) (w4.setCell ⟨p, o, none⟩ (.slice (some ⟨g, 0, none⟩) m c)) (putRow (w4.setCell ⟨p, o, none⟩ (.slice (some ⟨g, 0, none⟩) m c)) w.heap.size 0 [x1a, x1b]) := Only.putRow _ _ _ _
  have HE : Hid (AddEnd w (putRow (w4.setCell ⟨p, o, none⟩ (.slice (some ⟨g, 0, none⟩) m c)) w.heap.size 0 [x1a, x1b]) p T cs o (.slice (some ⟨g, 0, none⟩) (m + 1) c) 46 2 m (((xs.set k (x2a, x2b)).take m).flatMap hC)) := by
    refine ⟨.slice (some ⟨g, 0, none⟩) m c, (h3.set o _).put_far _ _ hpq, hO2.own h2c (fun q hq => by simp [Value.ownBlock] at hq; omega), hN, fun q hq => Or.inl hq, ?_⟩
    refine ((h4.mono (G := fun q => q = p ∨ (Value.slice (some ⟨g, 0, none⟩) (m + 1) c).ownBlock = some q) fun q _ hq => by rcases hq with h | h; exact Or.inl h; exact Or.inr (by rw [h]; rfl)).setCell (g := p) (Or.inl (Or.inl rfl)) o _).trans' hO2 fun q hq e => absurd e (by omega)
  have HBx : Hid (Blk (putRow (w4.setCell ⟨p, o, none⟩ (.slice (some ⟨g, 0, none⟩) m c)) w.heap.size 0 [x1a, x1b]) w.heap.size 46 (ints [x1a, x1b])) := hl.put_all [x1a, x1b] rfl
  clear h1 h2 h3 h4 hl h2b h2c hO2
  go_wp2_with fail
  refine bodyPost_row rfl w.heap.size 46 (ints [x1a, x1b]) _ rfl HBx.out Tryz.underlying46 rfl (by rw [ints_size]; exact handle_info) rfl ⟨rfl, ?_⟩
  exact HE.out

theorem removeI_any (p o : Nat) (T : TypeId) (cs : Array Value) (v : Value) (xs : List Int) (k : Nat) (w : World) (hB : Blk w p T cs) (hv : cs[o]? = some v) (ho : w.ownsRow 0 3 1 v xs.length (xs.flatMap fun x => [Value.int .i64 x])) (hne : v.ownBlock ≠ some p) (hl : xs.length ≤ 100000) (hk : k < xs.length) :
    Calls Tryz.prog 167 #[.pointer (some ⟨p, o, none⟩), .int .i64 k] w fun e w' => e = .returned (.int .i64 (xs.getD k 0)) ∧ AddEnd w w' p T cs o v 3 1 (xs.length - 1) (((xs.set k (xs.getD (xs.length - 1) 0)).take (xs.length - 1)).flatMap fun x => [Value.int .i64 x]) := by
  obtain ⟨A, c, rfl, hc1, hc2, hA⟩ := own_form ho
  obtain ⟨g, rfl⟩ := hA (by omega)
  obtain ⟨m, hm⟩ : ∃ m, xs.length = m + 1 := ⟨xs.length - 1, by omega⟩
  have hfl : ∀ x : Int, ([Value.int .i64 x] : List Value).length = 1 := fun _ => rfl
  have c1 : w.cell? ⟨p, o, none⟩ = some (.slice (some ⟨g, 0, none⟩) (m + 1) c) := by rw [← hm]; exact (hB.cell o).trans hv
  have c2 : w.frozen? ⟨p, o, none⟩ = false := hB.frozen o
  have d1 : w.cell? ⟨g, k, none⟩ = some (.int .i64 (xs.getD k 0)) := by
    rw [World.ownsRow.cellAt ho k (by omega), ← Nat.mul_one k, ← Nat.add_zero (k * 1), flat_get hfl xs k 0 hk (by omega)]
    simp [List.getD, List.getElem?_eq_getElem hk]
  have d2 : w.cell? ⟨g, m, none⟩ = some (.int .i64 (xs.getD m 0)) := by
    rw [World.ownsRow.cellAt ho m (by omega), ← Nat.mul_one m, ← Nat.add_zero (m * 1), flat_get hfl xs m 0 (by omega) (by omega)]
    simp [List.getD, List.getElem?_eq_getElem (show m < xs.length by omega)]
  have d3 : w.frozen? ⟨g, k, none⟩ = false := World.ownsRow.frozenAt ho k
  have hgp : g ≠ p := fun e => hne (by rw [e]; rfl)
  have hgp2 : p ≠ g := fun e => hgp e.symm
  have hkm : (k : Int) < (m : Int) + 1 := by omega
  have hmc : (m : Int) + 1 ≤ c := by omega
  have hcc : (c : Int) ≤ 9223372036854775807 := by unfold maxLen at hc2; omega
  have HE : Hid (AddEnd w ((w.setCell ⟨g, k, none⟩ (.int .i64 (xs.getD m 0))).setCell ⟨p, o, none⟩ (.slice (some ⟨g, 0, none⟩) m c)).drew p T cs o (.slice (some ⟨g, 0, none⟩) (m + 1) c) 3 1 m (((xs.set k (xs.getD m 0)).take m).flatMap fun x => [Value.int .i64 x])) := by
    have s1 := (World.ownsRow.stored ho (k * 1) (Value.int .i64 (xs.getD m 0))).1
    rw [← Nat.add_zero (k * 1), flat_set hfl xs k 0 (xs.getD m 0) _ hk (by omega) rfl, Nat.add_zero, Nat.mul_one] at s1
    rw [hm] at s1
    have s2 := own_cut s1 (m := m) (by omega)
    rw [flat_take hfl] at s2
    have hO1 : Only (fun q => q = p ∨ (Value.slice (some ⟨g, 0, none⟩) (m + 1) c).ownBlock = some q) w ((w.setCell ⟨g, k, none⟩ (.int .i64 (xs.getD m 0))).setCell ⟨p, o, none⟩ (.slice (some ⟨g, 0, none⟩) m c)) :=
      ((Only.refl (F := fun q => q = p ∨ (Value.slice (some ⟨g, 0, none⟩) (m + 1) c).ownBlock = some q)).setCell (g := g) (Or.inl (Or.inr rfl)) k _).setCell (g := p) (Or.inl (Or.inl rfl)) o _
    exact ⟨_, ((hB.far hgp2 _ _).set o _).drew, ownsRow_setCell_other (a := ⟨p, o, none⟩) s2 (by rw [hm] at hne; exact hne) _, by rw [hm] at hne; exact hne, fun q hq => Or.inl hq, hO1.drew⟩
  have HM := Lib.hid hm
  rw [hm, Nat.add_sub_cancel]
  rw [hm] at hv ho hne hl hc1 hk
  clear ho hB hne hv hfl hm
  generalize xs.getD k 0 = x1 at *
  generalize xs.getD m 0 = x2 at *
  go_enter Tryz.func167, Tryz.ntmps167
  go_wp2_with fail
  go_region
  go_wp2_with fail
  go_ret
  exact ⟨rfl, HE.out⟩

end Go.Proofs.YtpgcghnlepnoiaaGreatDoor

/-
  The closed fact 'slotted', and the walk of the law SlotsBack.
-/
namespace Go.Proofs.YtpgcghnlepnoiaaGreatDoor
open Go.RowKit

def SlotsA (p : Nat) (ls : List (Int × Bool)) : Assn := Col 145 147 2 slotC p ls


theorem take_in {w0 w : World} {p : Nat} {ls : List (Int × Bool)} {l : List Assn} (h : In (fun _ => False) w0 (SlotsA p ls :: l) w) (hl : ls.length ≤ 60) :
    Calls Tryz.prog 91 #[.pointer (some ⟨p, 0, none⟩)] w fun e w' => e = .returned (.tuple #[.agg (ints [(takeR ls).2.1.1, (takeR ls).2.1.2]), .int .i64 (takeR ls).2.2]) ∧ In (fun _ => False) w0 (SlotsA p (takeR ls).1 :: l) w' := by
  obtain ⟨F1, hA, hF, hb⟩ := h.open_
  exact (take_any p ls F1 w hA hl).mono fun e w' ⟨h1, h2, h3⟩ => ⟨h1, hb (A' := SlotsA p (takeR ls).1) h2 h3⟩
theorem free_in {w0 w : World} {p : Nat} {ls : List (Int × Bool)} {l : List Assn} (h : In (fun _ => False) w0 (SlotsA p ls :: l) w) (hg : GensOk ls) (a b : Int) :
    Calls Tryz.prog 128 #[.pointer (some ⟨p, 0, none⟩), .agg #[.int .i64 a, .int .i64 b]] w fun e w' => e = .returned (.int .i64 (freeR ls a b).2) ∧ In (fun _ => False) w0 (SlotsA p (freeR ls a b).1 :: l) w' := by
  obtain ⟨F1, hA, hF, hb⟩ := h.open_
  exact (free_any p ls F1 a b w hA hg).mono fun e w' ⟨h1, h2, h3⟩ => ⟨h1, hb (A' := SlotsA p (freeR ls a b).1) (SlotsAt.mono h2 fun k _ h => Or.inl h) h3⟩
theorem live_in {w0 w : World} {p : Nat} {ls : List (Int × Bool)} {l : List Assn} (h : In (fun _ => False) w0 (SlotsA p ls :: l) w) (a b : Int) :
    Calls Tryz.prog 73 #[.pointer (some ⟨p, 0, none⟩), .agg #[.int .i64 a, .int .i64 b]] w fun e w' => e = .returned (.bool (liveB ls a b)) ∧ Below w.heap.size w w' ∧ In (fun _ => False) w0 (SlotsA p ls :: l) w' := by
  obtain ⟨F1, hA⟩ := h.head
  exact (live_any p ls F1 a b w hA).mono fun e w' ⟨h1, h2⟩ => ⟨h1, h2, h.below h2⟩
theorem gens_in {w0 w : World} {p : Nat} {ls : List (Int × Bool)} {l : List Assn} (h : In (fun _ => False) w0 (SlotsA p ls :: l) w) (hl : ls.length ≤ 60) :
    Calls Tryz.prog 38 #[.pointer (some ⟨p, 0, none⟩)] w fun e w' => ∃ v, e = .returned v ∧ OwnI w' w.heap.size v (gensL ls) ∧ Below w.heap.size w w' ∧ In (fun _ => False) w0 (SlotsA p ls :: l) w' := by
  obtain ⟨F1, hA⟩ := h.head
  exact (gens_any p ls F1 w hA hl).mono fun e w' ⟨v, h1, h2, h3⟩ => ⟨v, h1, h2, h3, h.below h3⟩
theorem new_in {w0 w : World} {l : List Assn} (h : In (fun _ => False) w0 l w) : Calls Tryz.prog 90 #[] w fun e w' => ∃ p, e = .returned (.pointer (some ⟨p, 0, none⟩)) ∧ In (fun _ => False) w0 (SlotsA p [] :: l) w' :=
  (new_any w).mono fun e w' ⟨h1, h2, h3⟩ => ⟨_, h1, h.new (A := SlotsA w.heap.size []) h3 (h2.mono fun k _ hk => by rcases hk with hk | hk; exact hk.elim; exact hk.1)⟩

theorem OwnH.chunks {w : World} {B : Nat} {v : Value} {hs : List (Int × Int)} (h : OwnH w B v hs) : ∃ A c, v = .slice A hs.length c ∧ Chunks w w.heap.size 2 A (hs.map hL) := by
  obtain ⟨A, c, rfl, hr⟩ := h.form
  refine ⟨A, c, rfl, fun r hr => by obtain ⟨x, _, rfl⟩ := List.mem_map.1 hr; rfl, fun h0 => ?_⟩
  obtain ⟨g, rfl, hg1, hg2, _⟩ := hr 0 (by simpa using h0)
  refine ⟨g, 0, rfl, hg2, fun k r hk => ?_⟩
  rw [List.getElem?_map] at hk
  obtain ⟨x, hx, rfl⟩ := Option.map_eq_some_iff.1 hk
  have hkl := (List.getElem?_eq_some_iff.1 hx).1
  obtain ⟨g', e, _, _, h3, _⟩ := hr k hkl
  injection e with e
  injection e with e
  subst e
  have hgd : hs.getD k (0, 0) = x := by simp [List.getD, hx]
  rw [hgd] at h3
  rw [Nat.zero_add]; exact h3


end Go.Proofs.YtpgcghnlepnoiaaGreatDoor

/-
  The contracts of family.New, Parent, Loosen, Gone.
-/
namespace Go.Proofs.YtpgcghnlepnoiaaGreatDoor
open Go.RowKit

/-- what readers see of a family -/
structure FamSee (w : World) (p b : Nat) (m : Fam) : Prop where
  ok : FamOk m
  blk : Blk w p 126 #[.map (some b)]
  map : MapAt hdV hdV (fun _ => True) w b m
theorem FamSee.after {w w' : World} {p b : Nat} {m : Fam} (h : FamSee w p b m) (hb : Below w.heap.size w w') : FamSee w' p b m := ⟨h.ok, h.blk.after hb, h.map.after hb⟩
theorem In.seeFam {G : Nat → Prop} {w0 w : World} {l : List Assn} {p : Nat} {m : Fam} (h : In G w0 (FamA p m :: l) w) : ∃ b, FamSee w p b m := by
  obtain ⟨hm, b, hI⟩ := h.openFam
  exact ⟨b, hm, hI.blk, hI.swap.mapAt⟩

def parentR (m : Fam) (c : Hd) : Hd × Bool := ((mget m c).getD (0, 0), (mget m c).isSome)
theorem look_fam {w : World} {b : Nat} {m : Fam} (h : MapAt hdV hdV (fun _ => True) w b m) (c : Hd) {w' : World} (hb : Below w.heap.size w w') :
    (Instr.lookup 124 (.map (some b)) (hdV c) true).run Tryz.prog w' = .ok (.tuple #[hdV (parentR m c).1, .bool (parentR m c).2]) w' := by
  have := (h.after hb).look keyHd Tryz.underlying124 (zero_handle w') (x := c) trivial true
  rw [this]
  unfold parentR
  cases mget m c <;> rfl

section
variable {G : Nat → Prop} {w0 w : World} {l : List Assn} {p : Nat} {m : Fam}
theorem fnew_in (h : In G w0 l w) : Calls Tryz.prog 41 #[] w fun e w' => ∃ p, e = .returned (.pointer (some ⟨p, 0, none⟩)) ∧ In G w0 (FamA p [] :: l) w' := by
  have H := Lib.hid h
  clear h
  have hmm := @run_makeMap Tryz.prog
  go_enter Tryz.func41, Tryz.ntmps41
  go_wp2_with fail
  go_ret
  have h2 := (H.out.newMap hdV hdV (fun _ => True)).alloc 126 #[.map (some w.heap.size)]
  rw [World.size_alloc] at h2
  exact ⟨_, rfl, In.shutFam FamOk.nil h2⟩
end

set_option maxRecDepth 100000 in
theorem fparent_any {p b : Nat} {m : Fam} (c : Hd) (w : World) (h : FamSee w p b m) :
    Calls Tryz.prog 35 #[.pointer (some ⟨p, 0, none⟩), hdV c] w fun e w' => e = .returned (.tuple #[hdV (parentR m c).1, .bool (parentR m c).2]) ∧ Below w.heap.size w w' := by
  have HS := Lib.hid h
  clear h
  obtain ⟨c1, c2⟩ := c
  rw [hdV_eq]
  go_enter Tryz.func35, Tryz.ntmps35
  go_upto_region 1 with (fail)
  refine wp_abs (fun w' => Blk w' (w.heap.size + 1) 46 (ints [0, 0]) ∧ Blk w' w.heap.size 46 (ints (hL (c1, c2))) ∧ Below w.heap.size w w') ⟨by
    have := Blk.new (w.alloc (.cells (ints (hL (c1, c2))) 46)) 46 (ints [0, 0])
    rwa [World.size_alloc] at this, (Blk.new w _ _).alloc _, ((Below.refl _ _).alloc (Nat.le_refl _) _).alloc (by simp) _⟩ ?_
  rintro w1 ⟨hR, hC, hb⟩
  have hS1 := HS.out.after hb
  have k0 : w1.cell? ⟨p, 0, none⟩ = some (.map (some b)) := hS1.blk.cell 0
  have k1 : row? w1 w.heap.size 0 2 = some #[.int .i64 c1, .int .i64 c2] := hC.row_all rfl
  have hl1 := look_fam hS1.map (c1, c2) (Below.refl _ _).drew
  have hl2 := look_fam hS1.map (c1, c2) (((Below.refl _ w1).alloc (Nat.le_refl _) (.cells #[.int .i64 0, .int .i64 0] 46)).drew)
  have hba := (Below.refl w1.heap.size w1).alloc (Nat.le_refl _) (.cells #[.int .i64 0, .int .i64 0] 46)
  have k2 : row? (w1.alloc (.cells #[.int .i64 0, .int .i64 0] 46)) w.heap.size 0 2 = some #[.int .i64 c1, .int .i64 c2] := (hC.after hba).row_all rfl
  have k3 : (w1.alloc (.cells #[.int .i64 0, .int .i64 0] 46)).cell? ⟨p, 0, none⟩ = some (.map (some b)) := (hS1.blk.after hba).cell 0
  have HR := Lib.hid hR
  have HB := Lib.hid hb
  have hrb : w.heap.size ≤ w.heap.size + 1 := Nat.le_succ _
  rw [hdV_eq] at hl1 hl2
  generalize hr : parentR m (c1, c2) = r at *
  have HRR := Lib.hid hr
  clear hr
  obtain ⟨⟨r1, r2⟩, is⟩ := r
  simp only [hdV_eq] at hl1 hl2
  clear hR hC hb hS1 HS hba
  generalize w.heap.size + 1 = rb at *
  go_region
  all_goals
    go_upto_region 2 with (fail)
    refine wp_abs (fun w' => Blk w' w1.heap.size 46 (ints [r1, r2]) ∧ Blk w' rb 46 (ints [0, 0]) ∧ Below w.heap.size w w') ⟨(blk_new_put w1 46 [0, 0] [r1, r2] rfl).drew, (HR.out.after (below_new_put w1 46 [0, 0] [r1, r2])).drew, (HB.out.trans ((below_new_put w1 46 [0, 0] [r1, r2]).mono HB.out.size)).drew⟩ ?_
    generalize w1.heap.size = xb at *
    rintro w2 ⟨hx, hr2, hb2⟩
    have q1 : row? w2 xb 0 2 = some (ints [r1, r2]) := hx.row_all rfl
    have f1 : fits w2 rb 0 2 = true := hr2.fits 0 2 (by rw [ints_size]; decide)
    have HP := Lib.hid (hr2.put_all [r1, r2] rfl)
    have HBP : Hid (Below w.heap.size w (putRow w2 rb 0 [r1, r2])) := below_put hb2 (by omega) 0 _
    clear hx hr2 hb2 hl1 hl2 k0 k1 k2 k3
    go_wp2_with fail
    refine bodyPost_row_tmp rfl rb 46 (ints [r1, r2]) (.bool is) _ rfl rfl HP.out Tryz.underlying46 rfl (by rw [ints_size]; exact handle_info) rfl ?_
    rw [HRR.out]
    exact ⟨rfl, HBP.out⟩

end Go.Proofs.YtpgcghnlepnoiaaGreatDoor

/-
  The contracts of family.Gone's closure, of maps.DeleteFunc with it, and of family.Gone.
-/
namespace Go.Proofs.YtpgcghnlepnoiaaGreatDoor
open Go.RowKit

def goneB (h : Hd) (x : Hd × Hd) : Bool := decide (x.1 = h) || decide (x.2 = h)
theorem hL_dec (a b : Hd) : decide (hL a = hL b) = decide (a = b) := by
  rw [Bool.eq_iff_iff, decide_eq_true_eq, decide_eq_true_eq]
  exact ⟨hL_inj, fun e => by rw [e]⟩
set_option maxRecDepth 100000 in
theorem gone1_any (x v h : Hd) (hb : Nat) (w : World) (hB : Blk w hb 46 (ints (hL h))) :
    Calls Tryz.prog 130 #[hdV x, hdV v, .pointer (some ⟨hb, 0, none⟩)] w fun e w' => e = .returned (.bool (goneB h (x, v))) ∧ Below w.heap.size w w' := by
  have HB := Lib.hid hB
  clear hB
  have heq : ∀ (a b : Hd) (W : World), (binOp .eql 46 (.agg (ints (hL a))) (.agg (ints (hL b)))).run Tryz.prog W = .ok (.bool (decide (a = b))) W := fun a b W => by rw [eql_handle _ _ rfl rfl W, hL_dec]
  have h1 := heq x h
  have h2 := heq v h
  have HR : Hid (goneB h (x, v) = (decide (x = h) || decide (v = h))) := rfl
  clear heq
  go_enter Tryz.func130, Tryz.ntmps130
  go_upto_region 1 with (fail)
  refine wp_abs (fun w' => Blk w' (w.heap.size + 1) 46 (ints (hL v)) ∧ Blk w' w.heap.size 46 (ints (hL x)) ∧ Below w.heap.size w w') ⟨by
    have := Blk.new (w.alloc (.cells (ints (hL x)) 46)) 46 (ints (hL v))
    rwa [World.size_alloc] at this, (Blk.new w _ _).alloc _, ((Below.refl _ _).alloc (Nat.le_refl _) _).alloc (by simp) _⟩ ?_
  rintro w1 ⟨hV, hX, hb1⟩
  have HB1 := Lib.hid hb1
  have q1 : row? w1 (w.heap.size + 1) 0 2 = some (ints (hL v)) := hV.row_all rfl
  have q2 : row? w1 w.heap.size 0 2 = some (ints (hL x)) := hX.row_all rfl
  have q3 : row? w1 hb 0 2 = some (ints (hL h)) := (HB.out.after hb1).row_all rfl
  clear hV hX hb1 HB
  generalize hL x = xs at *
  generalize hL v = vs at *
  generalize hL h = hs at *
  generalize w.heap.size + 1 = vb at *
  cases hd1 : decide (x = h)
  · rw [hd1] at h1 HR
    clear hd1
    generalize decide (v = h) = d2 at *
    go_wp2_with fail
    go_ret
    exact ⟨ret_bool (by rw [HR.out]; rfl), HB1.out⟩
  · rw [hd1] at h1 HR
    clear hd1 h2
    generalize decide (v = h) = d2 at *
    go_wp2_with fail
    go_ret
    exact ⟨ret_bool (by rw [HR.out]; rfl), HB1.out⟩

theorem wpList_dropR {κ ν : Type} [DecidableEq κ] {P : Program} {k : TypeId} {ek : κ → Value} {ev : ν → Value} {good : κ → Prop} {w : World} (K : KeyOk P k ek good) {ops : Array Oper} {rest : List Oper} {o : Oper} {a : Act} {Q : Exit → Act → World → Prop} (hgd : o.guard = none) (mo xo : Operand) (t e : TypeId) (hop : o.op = Op.call { callee := Callee.builtin Builtin.delete, args := #[mo, xo], argTypes := #[t, k] })
    (ht : P.underlying t = some (.map k e)) (b r : Nat) (m left : List (κ × ν)) (hm : a.eval mo = .map (some b)) (h : RangeAt ek ev good w b r m left) (x : κ) (hx : a.eval xo = ek x) (hgx : good x) (hxl : x ∉ mkeys left)
    (hK : ∀ w', RangeAt ek ev good w' b r (mdel m x) left → Only (· = b) w w' → w'.heap.size = w.heap.size → wpList P ops Q rest (a.put o.dst (.tuple #[])) w') : wpList P ops Q (o :: rest) a w := by
  refine wpList_plain hgd fun K' hK' => ?_
  obtain ⟨w', hrun, h1, h2, h3⟩ := h.drop K ht hgx hxl o.type
  unfold Oper.wp
  simp [execOp, hop, resolve, invoke, builtin, hm, hx, hrun, Result.andThen]
  exact hK' _ _ (hK w' h1 h2 h3)

/-- the map after some of its entries have come -/
def goneMid (m : Fam) (h : Hd) (left : Fam) : Fam := m.filter fun x => decide (x.1 ∈ mkeys left) || !goneB h x
theorem goneMid_start (m : Fam) (h : Hd) : goneMid m h m = m := by
  unfold goneMid
  rw [List.filter_eq_self]
  intro x hx
  rw [decide_eq_true (show x.1 ∈ mkeys m from List.mem_map.2 ⟨x, hx, rfl⟩)]; rfl
theorem goneMid_end (m : Fam) (h : Hd) : goneMid m h [] = goneR m h := by
  unfold goneMid goneR goneB
  apply List.filter_congr
  intro x _
  simp [mkeys]
theorem mem_mdel_keys {left : Fam} {x y : Hd} : y ∈ mkeys (mdel left x) ↔ y ∈ mkeys left ∧ y ≠ x := by
  unfold mkeys
  simp only [List.mem_map]
  constructor
  · rintro ⟨p, hp, rfl⟩
    have := mem_mdel.1 hp
    exact ⟨⟨p, this.1, rfl⟩, this.2⟩
  · rintro ⟨⟨p, hp, rfl⟩, hne⟩
    exact ⟨p, mem_mdel.2 ⟨hp, hne⟩, rfl⟩
theorem goneMid_keep {m left : Fam} {h x v : Hd} (hn : (mkeys m).Nodup) (hx : (x, v) ∈ m) (hg : goneB h (x, v) = false) : goneMid m h (mdel left x) = goneMid m h left := by
  unfold goneMid
  apply List.filter_congr
  intro y hy
  by_cases e : y.1 = x
  · have : y = (x, v) := bond_inj hn y hy (x, v) hx e
    rw [this, hg]; simp
  · congr 1
    rw [Bool.eq_iff_iff, decide_eq_true_eq, decide_eq_true_eq, mem_mdel_keys]
    exact ⟨fun h => h.1, fun h => ⟨h, e⟩⟩
theorem goneMid_drop {m left : Fam} {h x v : Hd} (hn : (mkeys m).Nodup) (hx : (x, v) ∈ m) (hg : goneB h (x, v) = true) : mdel (goneMid m h left) x = goneMid m h (mdel left x) := by
  unfold goneMid mdel
  rw [List.filter_filter]
  apply List.filter_congr
  intro y hy
  by_cases e : y.1 = x
  · have : y = (x, v) := bond_inj hn y hy (x, v) hx e
    have h2 : decide (y.1 ∈ mkeys (mdel left x)) = false := by rw [decide_eq_false_iff_not, mem_mdel_keys]; exact fun h => h.2 e
    rw [show (List.filter (fun p : Hd × Hd => !decide (p.1 = x)) left) = mdel left x from rfl, h2, this, hg]; simp
  · have h2 : decide (y.1 ∈ mkeys (mdel left x)) = decide (y.1 ∈ mkeys left) := by
      rw [Bool.eq_iff_iff, decide_eq_true_eq, decide_eq_true_eq, mem_mdel_keys]
      exact ⟨fun h => h.1, fun h => ⟨h, e⟩⟩
    rw [show (List.filter (fun p : Hd × Hd => !decide (p.1 = x)) left) = mdel left x from rfl, h2]
    simp [e]

set_option maxHeartbeats 1000000 in
set_option maxRecDepth 100000 in
theorem deleteFunc_in {G : Nat → Prop} {w0 w : World} {l : List Assn} {b hb : Nat} {m : Fam} (hn : (mkeys m).Nodup) (h : Hd) (hI : In G w0 (FMap b m :: Box hb 46 (ints (hL h)) :: l) w) :
    Calls Tryz.prog 129 #[.map (some b), .func (.func 130) #[] #[.pointer (some ⟨hb, 0, none⟩)]] w fun e w' => e = .returned (.tuple #[]) ∧ In G w0 (FMap b (goneR m h) :: Box hb 46 (ints (hL h)) :: l) w' := by
  have HI0 := Lib.hid hI
  have HN := Lib.hid hn
  clear hI hn
  go_enter Tryz.func129, Tryz.ntmps129
  go_wp2_with (at_range; go_loud (refine wpList_rangeOver rfl _ 124 46 rfl Tryz.underlying124 b _ rfl (In.mapAt HI0.out) ?_))
  intro w6 hr6 hb6 hs6
  have HI7 := Lib.hid (In.ranged HI0.out hr6 hb6 hs6)
  generalize w.heap.size = ri at *
  clear hr6 hb6 hs6 HI0
  go_wp2_with fail
  go_loopw [9] (fun _ w' => ∃ left, (∀ q ∈ left, q ∈ m) ∧ In G w0 (RangeA hdV hdV (fun _ => True) b ri (goneMid m h left) left :: Box hb 46 (ints (hL h)) :: l) w') (fun _ w' => w'.rangeLeft b ri)
  case atStart => exact ⟨m, fun _ h => h, by rw [goneMid_start]; exact HI7.out⟩
  case round =>
    clear HI7
    obtain ⟨left, hsub, hI⟩ := hrel
    have HI := Lib.hid hI
    have HS := Lib.hid hsub
    clear hI hsub
    go_wp2_with (at_next; go_loud (refine wpList_nextOf keyHd rfl _ rfl b ri _ left rfl (In.rangeAt HI.out) ?_ ?_))
    · intro hl0
      subst hl0
      rw [goneMid_end] at HI
      go_wp2_with fail
      go_end0
      exact ⟨rfl, In.unranged HI.out⟩
    · intro x1 x2 v1 v2 w7 hx hr7 ho7 hs7 hlt7 hen
      have HI7 := Lib.hid (In.stepped HI.out hr7 ho7)
      have HX := Lib.hid (HS.out _ hx)
      have HLEN := Lib.hid hlt7
      have HXL := Lib.hid hx
      clear hr7 ho7 hs7 hlt7 hx
      obtain ⟨f1, f2⟩ := two_fits w7 46 46 [0, 0] [0, 0] [x1, x2]
      go_upto_region 3 with (fail)
      refine wp_abs (In G w0 (Box (w7.heap.size + 1) 46 (ints [v1, v2]) :: Box w7.heap.size 46 (ints [x1, x2]) :: RangeA hdV hdV (fun _ => True) b ri (goneMid m h left) (mdel left (x1, x2)) :: Box hb 46 (ints (hL h)) :: l)) (HI7.out.struct2 46 46 [0, 0] [0, 0] [x1, x2] [v1, v2] rfl rfl) ?_
      clear f1 f2 hen HI7
      generalize w7.heap.size + 1 = vb
      generalize w7.heap.size = xb
      intro w8 hI8
      have q1 : row? w8 xb 0 2 = some (ints [x1, x2]) := hI8.swap.blk.row_all rfl
      have q2 : row? w8 vb 0 2 = some (ints [v1, v2]) := hI8.blk.row_all rfl
      have hBH := hI8.fourth.blk
      have HI8 := Lib.hid hI8.third
      clear hI8
      go_wp2_with fail
      refine (gone1_any (x1, x2) (v1, v2) h hb w8 hBH).mono ?_
      rintro e w9 ⟨rfl, hb9⟩
      have HI9 := Lib.hid (HI8.out.below hb9)
      have q1 : row? w9 xb 0 2 = some (ints [x1, x2]) := HI9.out.third.blk.row_all rfl
      have HI10 : Hid (In G w0 (RangeA hdV hdV (fun _ => True) b ri (goneMid m h left) (mdel left (x1, x2)) :: Box hb 46 (ints (hL h)) :: l) w9) := by
        have := HI9.out.swap.drop.swap.drop
        exact this
      clear hb9 HI8 q2 HI9
      cases hg : goneB h ((x1, x2), (v1, v2))
      · have HK := Lib.hid (goneMid_keep (left := left) HN.out HX.out hg)
        clear hg
        go_wp2_with fail
        go_roundw
        case rel => exact ⟨mdel left (x1, x2), fun q hq => HS.out q (mem_mdel.1 hq).1, by rw [HK.out]; exact HI10.out⟩
        case measure => rw [(In.rangeAt HI10.out).count, (In.rangeAt HI.out).count]; exact HLEN.out
      · have HK := Lib.hid (goneMid_drop (left := left) HN.out HX.out hg)
        have hnl : (x1, x2) ∉ mkeys (mdel left (x1, x2)) := fun h => (mem_mdel_keys.1 h).2 rfl
        clear hg
        go_wp2_with (at_delete; go_loud (refine wpList_dropR keyHd rfl _ _ 124 46 rfl Tryz.underlying124 b ri _ _ rfl (In.rangeAt HI10.out) (x1, x2) rfl trivial hnl ?_))
        intro w10 h1 h2 h3
        have HI11 := Lib.hid (In.rangeDropped HI10.out h1 h2)
        rw [HK.out] at HI11
        clear h1 h2 h3 HI10 hnl
        go_wp2_with fail
        go_roundw
        case rel => exact ⟨mdel left (x1, x2), fun q hq => HS.out q (mem_mdel.1 hq).1, HI11.out⟩
        case measure => rw [(In.rangeAt HI11.out).count, (In.rangeAt HI.out).count]; exact HLEN.out

set_option maxRecDepth 100000 in
theorem fgone_in {G : Nat → Prop} {w0 w : World} {l : List Assn} {p : Nat} {m : Fam} (h : In G w0 (FamA p m :: l) w) (c : Hd) :
    Calls Tryz.prog 95 #[.pointer (some ⟨p, 0, none⟩), hdV c] w fun e w' => e = .returned (.tuple #[]) ∧ In G w0 (FamA p (goneR m c) :: l) w' := by
  obtain ⟨hm, b, hI⟩ := h.openFam
  have HM := Lib.hid hm
  have HI0 := Lib.hid hI
  clear h hm hI
  obtain ⟨c1, c2⟩ := c
  rw [hdV_eq]
  go_enter Tryz.func95, Tryz.ntmps95
  go_upto_region 1 with (fail)
  refine wp_abs (In G w0 (Box w.heap.size 46 (ints [c1, c2]) :: Box p 126 #[.map (some b)] :: FMap b m :: l)) (HI0.out.alloc 46 (ints [c1, c2])) ?_
  generalize w.heap.size = cb
  intro w1 hI
  have k0 : w1.cell? ⟨p, 0, none⟩ = some (.map (some b)) := hI.swap.blk.cell 0
  have HI : Hid (In G w0 (FMap b m :: Box cb 46 (ints (hL (c1, c2))) :: Box p 126 #[.map (some b)] :: l) w1) := hI.third
  clear hI HI0
  go_wp2_with fail
  refine (deleteFunc_in HM.out.nodup (c1, c2) HI.out).mono ?_
  rintro e w2 ⟨rfl, hI2⟩
  have HI2 := Lib.hid hI2
  clear hI2 HI k0
  go_wp2_with fail
  go_end0
  exact ⟨rfl, In.shutFam (HM.out.gone _) (HI2.out.third.swap.third.drop.swap)⟩

end Go.Proofs.YtpgcghnlepnoiaaGreatDoor

/-
  The contract of family.Loosen.
-/
namespace Go.Proofs.YtpgcghnlepnoiaaGreatDoor
open Go.RowKit

set_option maxRecDepth 100000 in
theorem floosen_in {G : Nat → Prop} {w0 w : World} {l : List Assn} {p : Nat} {m : Fam} (h : In G w0 (FamA p m :: l) w) (c : Hd) :
    Calls Tryz.prog 60 #[.pointer (some ⟨p, 0, none⟩), hdV c] w fun e w' => e = .returned (.int .i64 (loosenR m c).2) ∧ In G w0 (FamA p (loosenR m c).1 :: l) w' := by
  obtain ⟨hm, b, hI⟩ := h.openFam
  have HM := Lib.hid hm
  have HI0 := Lib.hid hI
  clear h hm hI
  obtain ⟨c1, c2⟩ := c
  rw [hdV_eq]
  go_enter Tryz.func60, Tryz.ntmps60
  go_upto_region 1 with (fail)
  refine wp_abs (In G w0 (Box w.heap.size 46 (ints [c1, c2]) :: Box p 126 #[.map (some b)] :: FMap b m :: l)) (HI0.out.alloc 46 (ints [c1, c2])) ?_
  generalize w.heap.size = cb
  intro w1 hI
  have hba := (Below.refl w1.heap.size w1).alloc (Nat.le_refl _) (.cells #[.int .i64 0, .int .i64 0] 46)
  have hmap := hI.third.mapAt
  have k0 : w1.cell? ⟨p, 0, none⟩ = some (.map (some b)) := hI.swap.blk.cell 0
  have k1 : row? w1 cb 0 2 = some #[.int .i64 c1, .int .i64 c2] := hI.blk.row_all (xs := [c1, c2]) rfl
  have k2 : row? (w1.alloc (.cells #[.int .i64 0, .int .i64 0] 46)) cb 0 2 = some #[.int .i64 c1, .int .i64 c2] := (hI.blk.after hba).row_all (xs := [c1, c2]) rfl
  have k3 : (w1.alloc (.cells #[.int .i64 0, .int .i64 0] 46)).cell? ⟨p, 0, none⟩ = some (.map (some b)) := (hI.swap.blk.after hba).cell 0
  have hl1 := look_fam hmap (c1, c2) (Below.refl _ _).drew
  have hl2 := look_fam hmap (c1, c2) (((Below.refl _ w1).alloc (Nat.le_refl _) (.cells #[.int .i64 0, .int .i64 0] 46)).drew)
  have HI := Lib.hid hI
  rw [hdV_eq] at hl1 hl2
  have HRR : Hid ((parentR m (c1, c2)).2 = (mget m (c1, c2)).isSome) := rfl
  generalize parentR m (c1, c2) = r at *
  obtain ⟨⟨r1, r2⟩, is⟩ := r
  simp only [hdV_eq] at hl1 hl2 HRR
  clear hI hmap hba HI0
  have HMOVE : Hid (∀ w2, w2 = (putRow (w1.alloc (.cells (ints [0, 0]) 46)) w1.heap.size 0 [r1, r2]).drew → In G w0 (Box p 126 #[.map (some b)] :: FMap b m :: Box cb 46 (ints [c1, c2]) :: l) w2) := fun w2 e => by
    rw [e]
    exact ((HI.out.below (below_new_put w1 46 [0, 0] [r1, r2]).drew).perm ((List.Perm.swap _ _ _).trans ((List.Perm.swap _ _ _).cons _)))
  go_region
  all_goals
    go_upto_region 2 with (fail)
    refine wp_abs (In G w0 (Box p 126 #[.map (some b)] :: FMap b m :: Box cb 46 (ints [c1, c2]) :: l)) (HMOVE.out _ rfl) ?_
    intro w2 hI2
    have HI2 := Lib.hid hI2
    have k4 : w2.cell? ⟨p, 0, none⟩ = some (.map (some b)) := hI2.blk.cell 0
    have k5 : row? w2 cb 0 2 = some #[.int .i64 c1, .int .i64 c2] := hI2.third.blk.row_all (xs := [c1, c2]) rfl
    clear hI2 hl1 hl2 k0 k1 k2 k3 HMOVE HI
    cases is
    · have HL : Hid (loosenR m (c1, c2) = (m, 5)) := by unfold Hid loosenR; rw [← HRR.out]; rfl
      go_wp2_with fail
      go_ret
      rw [HL.out]
      exact ⟨rfl, In.shutFam HM.out HI2.out.third.drop⟩
    · have HL : Hid (loosenR m (c1, c2) = (mdel m (c1, c2), 0)) := by unfold Hid loosenR; rw [← HRR.out]; rfl
      go_wp2_with fail
      go_still_tail 5, (by kernel_rfl)
      change wpList _ _ _ _ _ w2.drew
      have HI3 := Lib.hid HI2.out.drew
      clear HI2 k4 k5
      generalize w2.drew = w3 at *
      go_wp2_with (at_delete; go_loud (refine wpList_drop keyHd rfl _ _ 124 46 rfl Tryz.underlying124 b m rfl HI3.out.swap.mapAt (c1, c2) rfl trivial ?_))
      intro w4 h1 h2 h3
      have HI4 := Lib.hid (In.mapped HI3.out.swap h1 h2)
      clear h1 h2 h3
      go_wp2_with fail
      go_ret
      rw [HL.out]
      have hok := HM.out.loosen (c1, c2)
      rw [HL.out] at hok
      exact ⟨rfl, In.shutFam hok HI4.out.swap.third.drop⟩

end Go.Proofs.YtpgcghnlepnoiaaGreatDoor

/-
  A table in memory: a struct, its handles' slice, a map of columns, and the columns.
-/
namespace Go.Proofs.YtpgcghnlepnoiaaGreatDoor
open Go.RowKit

/-- two things as one -/
def Pair (A B : Assn) : Assn where
  at_ w F := Sep [A, B] w F
  frame h ho hd := h.frame ho hd
  cut h hd := h.cut hd
section
variable {A B : Assn} {l : List Assn} {F : Nat → Prop} {w0 w w' : World}
theorem In.join (h : In F w0 (A :: B :: l) w) : In F w0 (Pair A B :: l) w := by
  obtain ⟨⟨F1, F2, h1, ⟨F3, F4, g1, g2, g3, g4⟩, h3, h4⟩, ho⟩ := h
  refine ⟨⟨fun k => F1 k ∨ F3 k, F4, ⟨F1, F3, h1, ⟨F3, fun _ => False, g1, trivial, fun _ _ h => h, fun k h => by rcases h with h | h; exact h; exact h.elim⟩, fun k a b => h3 k a (g4 k (Or.inl b)), fun k h => h⟩, g2, fun k a b => ?_, fun k h => ?_⟩, ho⟩
  · rcases a with a | a
    · exact h3 k a (g4 k (Or.inr b))
    · exact g3 k a b
  · rcases h with (h | h) | h
    · exact h4 k (Or.inl h)
    · exact h4 k (Or.inr (g4 k (Or.inl h)))
    · exact h4 k (Or.inr (g4 k (Or.inr h)))
theorem In.split (h : In F w0 (Pair A B :: l) w) : In F w0 (A :: B :: l) w := by
  obtain ⟨⟨F1, F2, ⟨F3, F4, g1, ⟨F5, F6, e1, _, e3, e4⟩, g3, g4⟩, h2, h3, h4⟩, ho⟩ := h
  refine ⟨⟨F3, fun k => F5 k ∨ F2 k, g1, ⟨F5, F2, e1, h2, fun k a b => h3 k (g4 k (Or.inr (e4 k (Or.inl a)))) b, fun k h => h⟩, fun k a b => ?_, fun k h => ?_⟩, ho⟩
  · rcases b with b | b
    · exact g3 k a (e4 k (Or.inl b))
    · exact h3 k (g4 k (Or.inl a)) b
  · rcases h with h | h | h
    · exact h4 k (Or.inl (g4 k (Or.inl h)))
    · exact h4 k (Or.inl (g4 k (Or.inr (e4 k (Or.inl h)))))
    · exact h4 k (Or.inr h)
/-- a slice in a struct's cell was appended to, or cut -/
theorem In.added {p o n n' size : Nat} {T E : TypeId} {cs : Array Value} {v : Value} {xs xs' : List Value} (h : In F w0 (Box p T cs :: RowA E size v n xs :: l) w) (he : AddEnd w w' p T cs o v E size n' xs') :
    ∃ v', In F w0 (Box p T (cs.setIfInBounds o v') :: RowA E size v' n' xs' :: l) w' := by
  obtain ⟨v', h1, h2, h3, h4, h5⟩ := he
  obtain ⟨F1, hA, hF, hback⟩ := h.join.open_
  obtain ⟨G1, G2, ⟨g1, g1p⟩, ⟨G3, G4, g2, _, g3, g4⟩, g5, g6⟩ := hA
  refine ⟨v', In.split (hback (A' := Pair (Box p T (cs.setIfInBounds o v')) (RowA E size v' n' xs')) ?_ (h5.mono fun k _ hk => ?_))⟩
  · refine ⟨(· = p), fun k => v'.ownBlock = some k, ⟨h1, rfl⟩, ⟨fun k => v'.ownBlock = some k, fun _ => False, ⟨h2, fun k hk => hk⟩, trivial, fun _ _ h => h, fun k h => by rcases h with h | h; exact h; exact h.elim⟩, fun k a b => h3 (by rw [← a]; exact b), fun k hk => ?_⟩
    rcases hk with hk | hk
    · rw [hk]; exact Or.inl (g6 p (Or.inl g1p))
    · rcases h4 k hk with h | h
      · exact Or.inl (g6 k (Or.inr (g4 k (Or.inl (g2.2 k h)))))
      · exact Or.inr ⟨h, (World.ownsRow.lt h2 k hk).2⟩
  · rcases hk with hk | hk
    · rw [hk]; exact g6 p (Or.inl g1p)
    · exact g6 k (Or.inr (g4 k (Or.inl (g2.2 k hk))))
/-- what a method needs to know of such a slice -/
theorem In.sliceAt {p n size : Nat} {T E : TypeId} {cs : Array Value} {v : Value} {xs : List Value} (h : In F w0 (Box p T cs :: RowA E size v n xs :: l) w) : Blk w p T cs ∧ w.ownsRow 0 E size v n xs ∧ v.ownBlock ≠ some p := by
  obtain ⟨⟨F1, F2, ⟨h1, h1p⟩, ⟨F3, F4, g1, g2, g3, g4⟩, h3, h4⟩, ho⟩ := h
  exact ⟨h1, g1.1, fun e => h3 p h1p (g4 p (Or.inl (g1.2 p e)))⟩
theorem ColAt.parts {α : Type} {T E : TypeId} {size : Nat} {enc : α → List Value} {p : Nat} {xs : List α} (h : ColAt T E size enc w p xs F) : ∃ v, Blk w p T #[v] ∧ w.ownsRow 0 E size v xs.length (xs.flatMap enc) ∧ v.ownBlock ≠ some p ∧
    ∀ (ys : List α) (w' : World), AddEnd w w' p T #[v] 0 v E size ys.length (ys.flatMap enc) → ColAt T E size enc w' p ys (Plus F w w') ∧ Only F w w' := by
  obtain ⟨v, h1, h2, h3, h4, h5⟩ := h
  refine ⟨v, h1, h2, h3, fun ys w' he => ?_⟩
  obtain ⟨v', g1, g2, g3, g4, g5⟩ := he
  refine ⟨⟨v', g1, g2, g3, Or.inl h4, fun k hk => ?_⟩, g5.mono fun k _ hk => ?_⟩
  · rcases g4 k hk with h | h
    · exact Or.inl (h5 k h)
    · exact Or.inr ⟨h, (World.ownsRow.lt g2 k hk).2⟩
  · rcases hk with hk | hk
    · rw [hk]; exact h4
    · exact h5 k hk
end

/-- a row: a handle, and a beast -/
structure RowM where
  h : Int × Int
  b : Beast
def RowM.list (r : RowM) : List Int := [r.h.1, r.h.2] ++ r.b.list
def zeroRow : RowM := ⟨(0, 0), ⟨0, [0, 0, 0, 0, 0, 0, 0, 0]⟩⟩

def intC (x : Int) : List Value := [.int .i64 x]
abbrev ptrV (b : Nat) : Value := .pointer (some ⟨b, 0, none⟩)
@[go_sem] theorem ptrV_eq (b : Nat) : ptrV b = .pointer (some ⟨b, 0, none⟩) := rfl
/-- the kinds of a table -/
def tks (K : Int) : List Nat := kinds K.toNat
theorem tks_nodup (K : Int) : (tks K).Nodup := kinds_nodup _
def colOf (rows : List RowM) (k : Nat) : List Int := rows.map fun r => r.b.v.getD k 0
abbrev ColA (b : Nat) (xs : List Int) : Assn := Col 184 3 1 intC b xs
abbrev PtrMap (t : Nat) (m : List (Int × Nat)) : Assn := MapA (Value.int .i64) ptrV goodI t m
/-- rows that may lie in a table of the kinds K -/
def TRows (K : Int) (rows : List RowM) : Prop := ∀ r ∈ rows, r.b.k = K ∧ r.b.v.length = 8 ∧ ∀ k, k < 8 → k ∉ tks K → r.b.v.getD k 0 = 0
/-- the things of a table -/
def tblParts (p : Nat) (K : Int) (hv : Value) (mb : Nat) (cb : Nat → Nat) (rows : List RowM) (col : Nat → List Int) : List Assn :=
  [Box p 181 #[.int .i64 K, hv, .map (some mb)], RowA 46 2 hv rows.length (rows.flatMap fun r => hC r.h), PtrMap mb ((tks K).map fun k : Nat => ((k : Int), cb k))] ++ (tks K).map fun k => ColA (cb k) (col k)
/-- a table -/
def Tbl (p : Nat) (K : Int) (rows : List RowM) : Assn where
  at_ w F := TRows K rows ∧ (0 ≤ K ∧ K ≤ 255) ∧ ∃ hv mb cb, Sep (tblParts p K hv mb cb rows (colOf rows)) w F
  frame h ho hd := by obtain ⟨h1, h2, hv, mb, cb, hs⟩ := h; exact ⟨h1, h2, hv, mb, cb, hs.frame ho hd⟩
  cut h hd := by obtain ⟨h1, h2, hv, mb, cb, hs⟩ := h; exact ⟨h1, h2, hv, mb, cb, hs.cut hd⟩


theorem In.openTbl {F : Nat → Prop} {w0 w : World} {l : List Assn} {p : Nat} {K : Int} {rows : List RowM} (h : In F w0 (Tbl p K rows :: l) w) :
    TRows K rows ∧ (0 ≤ K ∧ K ≤ 255) ∧ ∃ hv mb cb, In F w0 (tblParts p K hv mb cb rows (colOf rows) ++ l) w := by
  obtain ⟨⟨F1, F2, ⟨hT, hK, hv, mb, cb, hs⟩, h2, h3, h4⟩, ho⟩ := h
  exact ⟨hT, hK, hv, mb, cb, (Sep.join hs h2 h3).cut fun k _ hk => h4 k hk, ho⟩
theorem In.shutTbl {F : Nat → Prop} {w0 w : World} {l : List Assn} {p : Nat} {K : Int} {rows : List RowM} {hv : Value} {mb : Nat} {cb : Nat → Nat} (hT : TRows K rows) (hK : 0 ≤ K ∧ K ≤ 255) (h : In F w0 (tblParts p K hv mb cb rows (colOf rows) ++ l) w) : In F w0 (Tbl p K rows :: l) w := by
  obtain ⟨hs, ho⟩ := h
  obtain ⟨F1, F2, h1, h2, h3, h4⟩ := Sep.part hs
  exact ⟨⟨F1, F2, ⟨hT, hK, hv, mb, cb, h1⟩, h2, h3, h4⟩, ho⟩

end Go.Proofs.YtpgcghnlepnoiaaGreatDoor

/-
  The contracts of Table.isRow, Row, Handles, of and Column.
-/
namespace Go.Proofs.YtpgcghnlepnoiaaGreatDoor
open Go.RowKit

/-- what a table's readers see -/
structure TblSee (w : World) (p : Nat) (K : Int) (rows : List RowM) (hv : Value) (mb : Nat) (cb : Nat → Nat) : Prop where
  t : TRows K rows
  k : 0 ≤ K ∧ K ≤ 255
  b : Blk w p 181 #[.int .i64 K, hv, .map (some mb)]
  o : w.ownsRow 0 46 2 hv rows.length (rows.flatMap fun r => hC r.h)
  m : MapAt (Value.int .i64) ptrV goodI w mb ((tks K).map fun k : Nat => ((k : Int), cb k))
  c : ∀ k ∈ tks K, ∃ F, ColAt 184 3 1 intC w (cb k) (colOf rows k) F
theorem TblSee.after {w w' : World} {p : Nat} {K : Int} {rows : List RowM} {hv : Value} {mb : Nat} {cb : Nat → Nat} (h : TblSee w p K rows hv mb cb) (hb : Below w.heap.size w w') : TblSee w' p K rows hv mb cb :=
  ⟨h.t, h.k, h.b.after hb, own_below h.o hb, h.m.after hb, fun k hk => by obtain ⟨F, hc⟩ := h.c k hk; exact ⟨F, hc.after hb⟩⟩
theorem Tbl.see {w : World} {p : Nat} {K : Int} {rows : List RowM} {F : Nat → Prop} (h : (Tbl p K rows).at_ w F) : ∃ hv mb cb, TblSee w p K rows hv mb cb := by
  obtain ⟨hT, hK, hv, mb, cb, hs⟩ := h
  have hI : In F w ([Box p 181 #[.int .i64 K, hv, .map (some mb)], RowA 46 2 hv rows.length (rows.flatMap fun r => hC r.h), PtrMap mb ((tks K).map fun k : Nat => ((k : Int), cb k))] ++ (tks K).map fun k => ColA (cb k) (colOf rows k)) w := In.start hs
  exact ⟨hv, mb, cb, hT, hK, In.blk hI, (In.sliceAt hI).2.1, (In.third hI).mapAt, fun k hk => hI.readAt (tks_nodup K) hk⟩

theorem row_lt {w : World} {g o n : Nat} {x : Array Value} (h : row? w g o n = some x) : g < w.heap.size := by
  unfold row? at h
  split at h
  · rename_i hg; exact (Array.getElem?_eq_some_iff.1 hg).1
  · cases h
def isRowB (n : Nat) (row : Int) : Bool := decide (0 ≤ row) && decide (row < n)
theorem isRow_any {p : Nat} {K : Int} {rows : List RowM} {hv : Value} {mb : Nat} {cb : Nat → Nat} (row : Int) (w : World) (h : TblSee w p K rows hv mb cb) (hl : rows.length ≤ 100000) :
    Calls Tryz.prog 103 #[.pointer (some ⟨p, 0, none⟩), .int .i64 row] w fun e w' => e = .returned (.bool (isRowB rows.length row)) ∧ w = w' := by
  obtain ⟨A, c, rfl, _, _, _⟩ := own_form h.o
  have c1 : w.cell? ⟨p, 1, none⟩ = some (.slice A rows.length c) := h.b.cell 1
  clear h
  by_cases h0 : 0 ≤ row
  · have hd : Hid (isRowB rows.length row = decide (row < rows.length)) := by unfold Hid isRowB; rw [decide_eq_true h0]; rfl
    have hb : decide (0 ≤ row) = true := by simpa using h0
    go_enter Tryz.func103, Tryz.ntmps103
    go_wp2_with fail
    go_ret
    exact ⟨ret_bool hd.out.symm, rfl⟩
  · have hd : Hid (isRowB rows.length row = false) := by unfold Hid isRowB; rw [decide_eq_false h0]; rfl
    have hb : decide (0 ≤ row) = false := by simpa using h0
    go_enter Tryz.func103, Tryz.ntmps103
    go_wp2_with fail
    go_ret
    exact ⟨ret_bool hd.out.symm, rfl⟩

def rowR (rows : List RowM) (row : Int) : RowM × Int := if isRowB rows.length row then (rows.getD row.toNat zeroRow, 0) else (zeroRow, 5)
theorem rowR_len {K : Int} {rows : List RowM} (h : TRows K rows) (row : Int) : (rowR rows row).1.b.v.length = 8 := by
  unfold rowR
  split
  · rename_i hr
    simp only [isRowB, Bool.and_eq_true, decide_eq_true_eq] at hr
    have hlt : row.toNat < rows.length := by omega
    simp only [List.getD, List.getElem?_eq_getElem hlt, Option.getD_some]
    exact (h _ (List.getElem_mem hlt)).2.1
  · rfl

set_option maxRecDepth 100000 in
theorem trow_any {p : Nat} {K : Int} {rows : List RowM} {hv : Value} {mb : Nat} {cb : Nat → Nat} (row : Int) (w : World) (h : TblSee w p K rows hv mb cb) (hl : rows.length ≤ 100000) :
    Calls Tryz.prog 66 #[.pointer (some ⟨p, 0, none⟩), .int .i64 row] w fun e w' => e = .returned (.tuple #[.agg (ints (rowR rows row).1.list), .int .i64 (rowR rows row).2]) ∧ Below w.heap.size w w' := by
  have HS := Lib.hid h
  clear h
  go_enter Tryz.func66, Tryz.ntmps66
  go_upto_region 1 with (fail)
  refine wp_abs (fun w' => Blk w' w.heap.size 51 (ints zeroRow.list) ∧ Below w.heap.size w w') ⟨Blk.new _ _ _, (Below.refl _ _).alloc (Nat.le_refl _) _⟩ ?_
  rintro w1 ⟨hB1, hb1⟩
  have HB1 := Lib.hid hB1
  have HO1 := Lib.hid hb1
  have HS1 := Lib.hid (HS.out.after hb1)
  clear hB1 hb1
  go_wp2_with fail
  refine (isRow_any row w1 HS1.out hl).mono ?_
  rintro e w' ⟨rfl, rfl⟩
  cases hr : isRowB rows.length row
  · have HR : Hid (rowR rows row = (zeroRow, 5)) := by unfold Hid rowR; rw [hr]; rfl
    have ff : fits w1 w.heap.size 0 11 = true := HB1.out.fits 0 11 (by rw [ints_size]; decide)
    clear hr
    go_wp2_with fail
    refine bodyPost_row_tmp rfl w.heap.size 51 (ints zeroRow.list) (.int .i64 5) _ rfl rfl (HB1.out.put_all _ rfl) Tryz.underlying51 rfl (by rw [ints_size]; exact row_info) rfl ?_
    rw [HR.out]
    exact ⟨rfl, HO1.out.trans (below_put (Below.refl w.heap.size w1) (Nat.le_refl _) 0 _)⟩
  · have HR : Hid (rowR rows row = (rows.getD row.toNat zeroRow, 0)) := by unfold Hid rowR; rw [hr]; rfl
    simp only [isRowB, Bool.and_eq_true, decide_eq_true_eq] at hr
    obtain ⟨i, rfl⟩ : ∃ i : Nat, row = i := ⟨row.toNat, by omega⟩
    have hil : i < rows.length := by omega
    have hii : (i : Int) < rows.length := by omega
    rw [Int.toNat_natCast] at HR
    have HT := Lib.hid (HS.out.t _ (List.getElem_mem hil))
    obtain ⟨A, c, rfl, hc1, hc2, hA⟩ := own_form HS1.out.o
    obtain ⟨g, rfl⟩ := hA (by omega)
    have hfl : ∀ r : RowM, (hC r.h).length = 2 := fun _ => rfl
    have q1 : row? w1 g (i * 2) 2 = some (ints (hL (rows.getD i zeroRow).h)) := by
      rw [own_row HS1.out.o hil, flat_at hfl rows i hil]
      simp [List.getD, List.getElem?_eq_getElem hil]; rfl
    have c1 : w1.cell? ⟨p, 1, none⟩ = some (.slice (some ⟨g, 0, none⟩) rows.length c) := HS1.out.b.cell 1
    have c0 : w1.cell? ⟨p, 0, none⟩ = some (.int .i64 K) := HS1.out.b.cell 0
    have hgd : rows.getD i zeroRow = rows[i] := by simp [List.getD, List.getElem?_eq_getElem hil]
    rw [← hgd] at HT
    have HRW : Hid (∀ k, (colOf rows k).getD i 0 = (rows.getD i zeroRow).b.v.getD k 0) := fun k => by
      unfold colOf; simp only [List.getD, List.getElem?_map, List.getElem?_eq_getElem hil, Option.map_some, Option.getD_some]
    generalize rows.getD i zeroRow = r at *
    obtain ⟨⟨r1, r2⟩, b⟩ := r
    change row? w1 g (i * 2) 2 = some #[.int .i64 r1, .int .i64 r2] at q1
    clear hr hA hfl hgd
    have hpl := World.block_lt_of_cell? _ _ c1
    have hgl := row_lt q1
    generalize hX : w1.alloc (.cells (ints zeroRow.list) 51) = w2
    have hb2 : Below w1.heap.size w1 w2 := by rw [← hX]; exact (Below.refl _ _).alloc (Nat.le_refl _) _
    have q1' : row? w2 g (i * 2) 2 = some #[.int .i64 r1, .int .i64 r2] := (row_below hb2 hgl _ _).trans q1
    have c1' : w2.cell? ⟨p, 1, none⟩ = some (.slice (some ⟨g, 0, none⟩) rows.length c) := (hb2.cell (p := ⟨p, 1, none⟩) hpl).trans c1
    have c0' : w2.cell? ⟨p, 0, none⟩ = some (.int .i64 K) := (hb2.cell (p := ⟨p, 0, none⟩) hpl).trans c0
    have hX' : w1.alloc (.cells #[.int .i64 0, .int .i64 0, .int .i64 0, .int .i64 0, .int .i64 0, .int .i64 0, .int .i64 0, .int .i64 0, .int .i64 0, .int .i64 0, .int .i64 0] 51) = w2 := hX
    have hBn : Blk w2 w1.heap.size 51 (ints zeroRow.list) := by rw [← hX]; exact Blk.new _ _ _
    have f2 : fits w2 w1.heap.size 0 11 = true := hBn.fits 0 11 (by rw [ints_size]; decide)
    have HBn := Lib.hid (hBn.put_all [r1, r2, K, 0, 0, 0, 0, 0, 0, 0, 0] rfl)
    have HB2 := Lib.hid hb2
    clear hX hBn hb2
    go_wp2_with fail
    go_region
    have HO2 : Hid (Below w.heap.size w (putRow w2 w1.heap.size 0 [r1, r2, K, 0, 0, 0, 0, 0, 0, 0, 0]).drew) := (HO1.out.trans ((below_put HB2.out (Nat.le_refl _) 0 _).mono HO1.out.size)).drew
    have HRs : Hid (Blk (putRow w2 w1.heap.size 0 [r1, r2, K, 0, 0, 0, 0, 0, 0, 0, 0]).drew w.heap.size 51 (ints zeroRow.list)) := ((HB1.out.after HB2.out).put_far 0 _ (by have := HB1.out.lt; omega)).drew
    have HBn' : Hid (Blk (putRow w2 w1.heap.size 0 [r1, r2, K, 0, 0, 0, 0, 0, 0, 0, 0]).drew w1.heap.size 51 (ints [r1, r2, K, 0, 0, 0, 0, 0, 0, 0, 0])) := HBn.out.drew
    have hrb : Hid (w.heap.size < w1.heap.size) := HB1.out.lt
    generalize (putRow w2 w1.heap.size 0 [r1, r2, K, 0, 0, 0, 0, 0, 0, 0, 0]).drew = w3 at *
    clear HBn HB2 hX' c0' c1' q1' f2 HS1 c0 c1 q1
    generalize w1.heap.size = rb at *
    have HS3 := Lib.hid (HS.out.after HO2.out)
    have c1 : w3.cell? ⟨p, 2, none⟩ = some (.map (some mb)) := HS3.out.b.cell 2
    go_wp2_with (at_range; go_loud (refine wpList_rangeOver rfl _ 179 182 rfl Tryz.underlying179 mb _ rfl HS3.out.m ?_))
    intro w4 hr4 hb4 hs4
    have HRA := Lib.hid hr4
    have HRs4 := Lib.hid (HRs.out.after hb4)
    have HBn4 := Lib.hid (HBn'.out.after hb4)
    have HO4 : Hid (Below w.heap.size w w4) := HO2.out.trans (hb4.mono HO2.out.size)
    have hri : Hid (rb < w3.heap.size) := HBn'.out.lt
    clear hr4 hb4 hs4 HS3 c1 HRs HBn' HO2
    generalize w3.heap.size = ri at *
    go_wp2_with fail
    go_loopw [7] (fun _ w' => ∃ left vs, RangeAt (Value.int .i64) ptrV goodI w' mb ri ((tks K).map fun k : Nat => ((k : Int), cb k)) left ∧ Blk w' w.heap.size 51 (ints zeroRow.list) ∧ Blk w' rb 51 (ints ([r1, r2, K] ++ vs)) ∧
      vs.length = 8 ∧ (∀ k, k < 8 → vs.getD k 0 = if (k : Int) ∈ mkeys left ∨ k ∉ tks K then 0 else b.v.getD k 0) ∧ Below w.heap.size w w') (fun _ w' => w'.rangeLeft mb ri)
    case atStart =>
      refine ⟨_, [0, 0, 0, 0, 0, 0, 0, 0], HRA.out, HRs4.out, HBn4.out, rfl, fun k hk => ?_, HO4.out⟩
      have h0 : ([0, 0, 0, 0, 0, 0, 0, 0] : List Int).getD k 0 = 0 := by
        match k, hk with
        | 0, _ | 1, _ | 2, _ | 3, _ | 4, _ | 5, _ | 6, _ | 7, _ => rfl
      rw [h0]
      by_cases hkt : k ∈ tks K
      · rw [if_pos (Or.inl (by simp only [mkeys, List.map_map]; exact List.mem_map.2 ⟨k, hkt, rfl⟩))]
      · rw [if_pos (Or.inr hkt)]
    case round =>
      clear HRA HRs4 HBn4 HO4
      obtain ⟨left, vs, h1, h2, h3, h4, h5, h6⟩ := hrel
      have H1 := Lib.hid h1
      have H2 := Lib.hid h2
      have H3 := Lib.hid h3
      have H5 := Lib.hid h5
      have H6 := Lib.hid h6
      have hvl := Lib.hid h4
      clear h1 h2 h3 h4 h5 h6
      go_wp2_with (at_next; go_loud (refine wpList_nextOf keyI rfl _ rfl mb ri _ left rfl H1.out ?_ ?_))
      · intro hl0
        subst hl0
        have hvs : vs = b.v := by
          apply List.ext_getElem?
          intro j
          have hv8 := hvl.out
          have hb8 : b.v.length = 8 := HT.out.2.1
          by_cases hj : j < 8
          · have h1 := H5.out j hj
            have h2 : j ∉ tks K → b.v.getD j 0 = 0 := HT.out.2.2 j hj
            simp only [List.getD, List.getElem?_eq_getElem (show j < vs.length by omega), List.getElem?_eq_getElem (show j < b.v.length by omega), Option.getD_some] at h1 h2 ⊢
            by_cases hjt : j ∈ tks K
            · rw [if_neg (by rintro (hm | hm); simp [mkeys] at hm; exact hm hjt)] at h1
              rw [h1]
            · rw [if_pos (Or.inr hjt)] at h1
              rw [h1, h2 hjt]
          · rw [List.getElem?_eq_none (by omega), List.getElem?_eq_none (by omega)]
        subst hvs
        have hk : b.k = K := HT.out.1
        have hlist : [r1, r2, K] ++ b.v = RowM.list ⟨(r1, r2), b⟩ := by rw [← hk]; rfl
        have HBB := H3.out
        rw [hlist] at HBB
        have hlen : (RowM.list ⟨(r1, r2), b⟩).length = 11 := by have := hvl.out; simp [RowM.list, Beast.list, this]
        have q1 : row? wr rb 0 11 = some (ints (RowM.list ⟨(r1, r2), b⟩)) := HBB.row_all hlen
        have f1 : fits wr w.heap.size 0 11 = true := H2.out.fits 0 11 (by rw [ints_size]; decide)
        have HLEN := Lib.hid hlen
        have HRS : Hid (Blk (putRow wr w.heap.size 0 (RowM.list ⟨(r1, r2), b⟩)) w.heap.size 51 (ints (RowM.list ⟨(r1, r2), b⟩))) := H2.out.put_all _ hlen
        clear hk hlist HBB
        generalize hxs : RowM.list ⟨(r1, r2), b⟩ = xs at *
        have HXS := Lib.hid hxs
        clear hxs
        go_wp2_with fail
        refine bodyPost_row_tmp rfl w.heap.size 51 (ints xs) (.int .i64 0) _ rfl rfl HRS.out Tryz.underlying51 rfl (by rw [ints_size, HLEN.out]; exact row_info) rfl ?_
        rw [HR.out]
        exact ⟨by rw [← HXS.out], below_put H6.out (Nat.le_refl _) 0 _⟩
      · intro x v w7 hx hr7 ho7 hs7 hlt7 hen
        obtain ⟨k, hk, hke⟩ := List.mem_map.1 (H1.out.sub _ hx)
        injection hke with e1 e2
        subst e1; subst e2
        have hk8 : k < 8 := by have := (List.mem_filter.1 hk).1; simpa using this
        have hki : (k : Int) < 8 := by omega
        have hwr : w.heap.size ≤ ri := by have := hrb.out; have := hri.out; omega
        have hb7 : Below w.heap.size w w7 := H6.out.trans (ho7.below (B := w.heap.size) H6.out.size fun q _ e => by rw [e]; exact hwr)
        have hS7 := HS.out.after hb7
        obtain ⟨F1, hC⟩ := hS7.c k hk
        obtain ⟨A3, c3, f1, f2, f3, f4, f5, f6, f7, f8⟩ := hC.slice
        have hcl : (colOf rows k).length = rows.length := by unfold colOf; rw [List.length_map]
        obtain ⟨A4, c4, hA4, _, _, hA5⟩ := own_form f5
        injection hA4 with e3 e4 e5
        obtain ⟨g3, hg3⟩ := hA5 (by omega)
        have e6 : A3 = some ⟨g3, 0, none⟩ := e3.trans hg3
        subst e6
        have hfi : ∀ x : Int, (intC x).length = 1 := fun _ => rfl
        have d1 : w7.cell? ⟨g3, i, none⟩ = some (.int .i64 (b.v.getD k 0)) := by
          rw [World.ownsRow.cellAt f5 i (by rw [hcl]; omega), ← Nat.mul_one i, ← Nat.add_zero (i * 1), flat_get hfi (colOf rows k) i 0 (by rw [hcl]; omega) (by omega), ← HRW.out k]
          simp [List.getD, List.getElem?_eq_getElem (show i < (colOf rows k).length by rw [hcl]; omega), intC]
        rw [hcl] at f1
        have hB2 := H2.out
        have hB3 := ho7.blk H3.out (fun e => by have := hri.out; omega)
        have hB2' := ho7.blk H2.out (fun e => by have := hrb.out; have := hri.out; omega)
        have c2 : w7.frozen? ⟨rb, 1 + 1 + 1 + k, none⟩ = false := hB3.frozen _
        have hvk : vs.length = 8 := hvl.out
        have c3 : w7.cell? ⟨rb, 1 + 1 + 1 + k, none⟩ = some (.int .i64 (vs.getD k 0)) := by
          rw [hB3.cell, ints_get, show 1 + 1 + 1 + k = k + 3 from by omega]
          simp [List.getD, List.getElem?_eq_getElem (show k < vs.length by omega)]
        have HR7 := Lib.hid hr7
        have HB3 := Lib.hid hB3
        have HB2 := Lib.hid hB2'
        have HB7 := Lib.hid hb7
        have HX := Lib.hid hx
        have HLT := Lib.hid hlt7
        have HK2 := Lib.hid hk
        clear hr7 ho7 hs7 hlt7 hx hk hC f2 f3 f4 f5 f6 f7 f8 hA5 hB2 hB3 hB2' hS7 hb7 hcl hvk e4 e3 e5 hg3
        obtain ⟨y, hy⟩ : ∃ y, b.v.getD k 0 = y := ⟨_, rfl⟩
        rw [hy] at d1
        have HY := Lib.hid hy
        clear hy
        generalize vs.getD k 0 = y0 at c3
        go_wp2_with fail
        have hmb := HS.out.m.lt
        have hO8 : Only (· = rb) w7 (w7.setCell ⟨rb, 3 + k, none⟩ (.int .i64 y)) := (Only.refl (F := (· = rb))).setCell (g := rb) (Or.inl rfl) _ _
        have HR8 := Lib.hid (HR7.out.only hO8 (by have := hrb.out; omega) (by have := hri.out; omega))
        go_roundw
        case rel =>
          refine ⟨mdel left (k : Int), vs.set k y, HR8.out, HB2.out.far (by have := hrb.out; omega) _ _, ?_, by rw [List.length_set]; exact hvl.out, fun j hj => ?_, HB7.out.setCell (p := ⟨rb, 3 + k, none⟩) (by have := hrb.out; simp; omega) _⟩
          · have := HB3.out.set (3 + k) (.int .i64 y)
            rw [ints_set] at this
            have e : ([r1, r2, K] ++ vs).set (3 + k) y = [r1, r2, K] ++ vs.set k y := by
              rw [List.set_append_right _ _ (by simp)]; simp
            rw [e] at this; exact this
          · rw [getD_set]
            by_cases hjk : k = j
            · subst hjk
              rw [if_pos ⟨rfl, by rw [hvl.out]; omega⟩, if_neg]
              · exact HY.out.symm
              · rintro (hm | hm)
                · obtain ⟨q, hq, e⟩ := List.mem_map.1 hm
                  exact (mem_mdel.1 hq).2 e
                · exact hm HK2.out
            · rw [if_neg (fun h => hjk h.1), H5.out j hj]
              have : (j : Int) ∈ mkeys (mdel left (k : Int)) ↔ (j : Int) ∈ mkeys left := by
                constructor
                · intro hm; obtain ⟨q, hq, e⟩ := List.mem_map.1 hm; exact List.mem_map.2 ⟨q, (mem_mdel.1 hq).1, e⟩
                · intro hm; obtain ⟨q, hq, e⟩ := List.mem_map.1 hm; exact List.mem_map.2 ⟨q, mem_mdel.2 ⟨hq, by simp only [e]; omega⟩, e⟩
              simp only [this]
        case measure => rw [HR8.out.count, H1.out.count]; exact HLT.out

end Go.Proofs.YtpgcghnlepnoiaaGreatDoor

/-
  Slices of rows (a handle and a beast) of one's own.
-/
namespace Go.Proofs.YtpgcghnlepnoiaaGreatDoor
open Go.RowKit

theorem In.push {E : TypeId} {size n n' : Nat} {v v' : Value} {xs xs' : List Value} {O : Obj} {F : Nat → Prop} {w0 w w3 : World} {l : List Assn} (h : In F w0 (RowA E size v n xs :: l) w) (hown : w3.ownsRow 0 E size v' n' xs') (hg : (w.alloc O).grownBy w3 v.ownBlock)
    (hat : v'.ownBlock = v.ownBlock ∨ v'.ownBlock = some (w.heap.size + 1)) : In F w0 (RowA E size v' n' xs' :: l) w3 := by
  obtain ⟨F1, hA, _, hback⟩ := h.open_
  refine hback (A' := RowA E size v' n' xs') ⟨hown, fun k hk => ?_⟩ ((Only.refl.alloc _).trans (Only.grown hg fun k hk => hA.2 k hk))
  rcases hat with e | e
  · rw [e] at hk; exact Or.inl (hA.2 k hk)
  · have := (World.ownsRow.lt hown k hk).2
    rw [e] at hk; injection hk with hk; exact Or.inr ⟨by omega, this⟩
/-- a slice of rows of one's own -/
def fixL (n : Nat) (xs : List Int) : List Int := (xs ++ List.replicate n 0).take n
theorem fixL_len (n : Nat) (xs : List Int) : (fixL n xs).length = n := by unfold fixL; rw [List.length_take, List.length_append, List.length_replicate]; omega
theorem fixL_eq {n : Nat} {xs : List Int} (h : xs.length = n) : fixL n xs = xs := by unfold fixL; rw [List.take_append_of_le_length (by omega), ← h, List.take_length]
def rowE (r : RowM) : List Int := fixL 11 r.list
def rowC (r : RowM) : List Value := (rowE r).map (Value.int .i64)
theorem rowE_len (r : RowM) : (rowE r).length = 11 := fixL_len _ _
theorem rowC_len (r : RowM) : (rowC r).length = 11 := by unfold rowC; rw [List.length_map, rowE_len]
theorem rowE_eq {r : RowM} (h : r.b.v.length = 8) : rowE r = r.list := fixL_eq (by simp [RowM.list, Beast.list, h])
abbrev RowsA (v : Value) (rows : List RowM) : Assn := RowA 51 11 v rows.length (rows.flatMap rowC)
theorem row_parts : (Tryz.prog.info? 51).map (fun i => (i.zero, i.size, i.bytes)) = some (some (.agg (ints zeroRow.list)), 11, 88) := by kernel_rfl

theorem In.rowsAt {F : Nat → Prop} {w0 w : World} {l : List Assn} {v : Value} {rows : List RowM} (h : In F w0 (RowsA v rows :: l) w) : ∃ A c, v = .slice A rows.length c ∧ rows.length ≤ c ∧ c ≤ maxLen ∧ ∀ k, k < rows.length → ∃ g, A = some ⟨g, 0, none⟩ ∧ row? w g (k * 11) 11 = some (ints (rowE (rows.getD k zeroRow))) := by
  obtain ⟨F1, hA⟩ := h.head
  have ho : w.ownsRow 0 51 11 v rows.length (rows.flatMap rowC) := hA.1
  obtain ⟨A, c, rfl, hc1, hc2, hg⟩ := own_form ho
  refine ⟨A, c, rfl, hc1, hc2, fun k hk => ?_⟩
  obtain ⟨g, rfl⟩ := hg (by omega)
  refine ⟨g, rfl, ?_⟩
  rw [own_row ho hk, flat_at rowC_len rows k hk]
  simp [List.getD, List.getElem?_eq_getElem hk]
  rfl

end Go.Proofs.YtpgcghnlepnoiaaGreatDoor

/-
  The contracts of Table.Handles, of and Column.
-/
namespace Go.Proofs.YtpgcghnlepnoiaaGreatDoor
open Go.RowKit

theorem own_reads {w : World} {B : Nat} {e : TypeId} {size n c : Nat} {A : Option Addr} {xs : List Value} (h : w.ownsRow B e size (.slice A n c) n xs) : Reads w w.heap.size size A n xs ∧ ((A = none ∧ n = 0 ∧ c = 0) ∨ ∃ b o, A = some ⟨b, o, none⟩) := by
  refine ⟨Reads.of_own h, ?_⟩
  rcases h.2 with ⟨e1, h0⟩ | ⟨g, cap, cur, e1, _⟩
  · injection e1 with e1 e2 e3; exact Or.inl ⟨e1, h0, e3⟩
  · injection e1 with e1 e2 e3; exact Or.inr ⟨g, 0, e1⟩
theorem one_hC (hs : List (Int × Int)) : ∀ u ∈ hs.flatMap hC, u.oneCell' = true := by
  intro u hu
  obtain ⟨h, _, hu⟩ := List.mem_flatMap.1 hu
  simp [hC] at hu
  rcases hu with rfl | rfl <;> rfl
theorem one_int (xs : List Int) : ∀ u ∈ xs.flatMap intC, u.oneCell' = true := by
  intro u hu
  obtain ⟨h, _, hu⟩ := List.mem_flatMap.1 hu
  simp [intC] at hu
  rw [hu]; rfl

theorem thandles_any {p : Nat} {K : Int} {rows : List RowM} {hv : Value} {mb : Nat} {cb : Nat → Nat} (w : World) (h : TblSee w p K rows hv mb cb) (hl : rows.length ≤ 100000) :
    Calls Tryz.prog 65 #[.pointer (some ⟨p, 0, none⟩)] w fun e w' => ∃ v, e = .returned v ∧ w'.ownsRow w.heap.size 46 2 v rows.length (rows.flatMap fun r => hC r.h) ∧ Below w.heap.size w w' := by
  obtain ⟨A, c, rfl, _, _, _⟩ := own_form h.o
  have c1 : w.cell? ⟨p, 1, none⟩ = some (.slice A rows.length c) := h.b.cell 1
  have HO := Lib.hid (own_reads h.o)
  have H1 : Hid (∀ u ∈ rows.flatMap (fun r => hC r.h), u.oneCell' = true) := by
    intro u hu
    obtain ⟨r, hr, hu⟩ := List.mem_flatMap.1 hu
    exact one_hC [r.h] u (by simpa using hu)
  clear h
  go_enter Tryz.func65, Tryz.ntmps65
  go_wp2_with fail
  refine (cloneHandle_any A rows.length c _ w w.heap.size HO.out.1 H1.out HO.out.2 (by omega)).mono ?_
  rintro e w1 ⟨v, rfl, ho, hb⟩
  have HR := Lib.hid ho
  have HB := Lib.hid hb
  clear ho hb
  go_wp2_with fail
  go_ret
  exact ⟨v, rfl, HR.out, HB.out⟩

theorem zero_col (w : World) : (zeroValue 182).run Tryz.prog w = .ok (.pointer none) w := by kernel_rfl
def ofR (K kind : Int) : Option Nat × Int := if 0 ≤ kind ∧ kind < 8 then if kind.toNat ∈ tks K then (some kind.toNat, 0) else (none, 5) else (none, 1)
def colPtr (cb : Nat → Nat) : Option Nat → Value
  | some k => ptrV (cb k)
  | none => .pointer none
theorem of_cases (K kind : Int) : (ofR K kind = (none, 1) ∧ ¬ (0 ≤ kind ∧ kind < 8)) ∨ ∃ k : Nat, kind = k ∧ k < 8 ∧ ((k ∉ tks K ∧ ofR K kind = (none, 5)) ∨ (k ∈ tks K ∧ ofR K kind = (some k, 0))) := by
  unfold ofR
  by_cases h : 0 ≤ kind ∧ kind < 8
  · right
    refine ⟨kind.toNat, by omega, by omega, ?_⟩
    by_cases hk : kind.toNat ∈ tks K
    · right; exact ⟨hk, by rw [if_pos h, if_pos hk]⟩
    · left; exact ⟨hk, by rw [if_pos h, if_neg hk]⟩
  · left; exact ⟨by rw [if_neg h], h⟩
theorem col_get {K : Int} {cb : Nat → Nat} (k : Nat) : mget ((tks K).map fun k : Nat => ((k : Int), cb k)) (k : Int) = if k ∈ tks K then some (cb k) else none := by
  have hn : (mkeys ((tks K).map fun k : Nat => ((k : Int), cb k))).Nodup := by
    unfold mkeys
    rw [List.map_map]
    exact List.Pairwise.map _ (fun a b (h : a ≠ b) e => h (by have e : (a : Int) = b := e; omega)) (tks_nodup K)
  by_cases hk : k ∈ tks K
  · rw [if_pos hk]
    exact mget_of_mem hn (List.mem_map.2 ⟨k, hk, rfl⟩)
  · rw [if_neg hk, mget_none]
    intro hm
    obtain ⟨x, hx, e⟩ := List.mem_map.1 hm
    obtain ⟨y, hy, rfl⟩ := List.mem_map.1 hx
    exact hk (by have : y = k := by simp only at e; omega
                 rw [← this]; exact hy)

theorem tof_any {p : Nat} {K : Int} {rows : List RowM} {hv : Value} {mb : Nat} {cb : Nat → Nat} (kind : Int) (w : World) (h : TblSee w p K rows hv mb cb) :
    Calls Tryz.prog 131 #[.pointer (some ⟨p, 0, none⟩), .int .i64 kind] w fun e w' => e = .returned (.tuple #[colPtr cb (ofR K kind).1, .int .i64 (ofR K kind).2]) ∧ w = w' := by
  have c1 : w.cell? ⟨p, 2, none⟩ = some (.map (some mb)) := h.b.cell 2
  have HM := Lib.hid h.m
  clear h
  rcases of_cases K kind with ⟨hR, hn⟩ | ⟨k, rfl, hk, ⟨hm, hR⟩ | ⟨hm, hR⟩⟩
  · have HR := Lib.hid hR
    clear hR
    by_cases h0 : kind < 0
    · have hb : decide (kind < 0) = true := by simpa using h0
      clear hn
      go_enter Tryz.func131, Tryz.ntmps131
      go_wp2_with fail
      go_ret2
      exact ⟨by rw [HR.out]; rfl, rfl⟩
    · have hb : decide (kind < 0) = false := by simpa using h0
      have h8 : 8 ≤ kind := by omega
      have hb2 : decide (8 ≤ kind) = true := by simpa using h8
      clear hn
      go_enter Tryz.func131, Tryz.ntmps131
      go_wp2_with fail
      go_ret2
      exact ⟨by rw [HR.out]; rfl, rfl⟩
  · have HR := Lib.hid hR
    have HG : Hid (mget ((tks K).map fun k : Nat => ((k : Int), cb k)) (k : Int) = none) := by unfold Hid; rw [col_get, if_neg hm]
    have hki : (k : Int) < 8 := by omega
    have hb : decide ((k : Int) < 0) = false := by simp
    have hb2 : decide (8 ≤ (k : Int)) = false := by simp; omega
    clear hR hm
    go_enter Tryz.func131, Tryz.ntmps131
    go_wp2_with (at_lookup; go_loud (refine wpList_look keyI rfl _ _ 179 182 true rfl Tryz.underlying179 (.pointer none) (zero_col _) mb _ rfl HM.out (k : Int) rfl (wf_small (by omega)) (.tuple #[.pointer none, .bool false]) (by rw [HG.out]; rfl) ?_))
    go_ret2
    exact ⟨by rw [HR.out]; rfl, rfl⟩
  · have HR := Lib.hid hR
    have HG : Hid (mget ((tks K).map fun k : Nat => ((k : Int), cb k)) (k : Int) = some (cb k)) := by unfold Hid; rw [col_get, if_pos hm]
    have hki : (k : Int) < 8 := by omega
    have hb : decide ((k : Int) < 0) = false := by simp
    have hb2 : decide (8 ≤ (k : Int)) = false := by simp; omega
    clear hR hm
    go_enter Tryz.func131, Tryz.ntmps131
    go_wp2_with (at_lookup; go_loud (refine wpList_look keyI rfl _ _ 179 182 true rfl Tryz.underlying179 (.pointer none) (zero_col _) mb _ rfl HM.out (k : Int) rfl (wf_small (by omega)) (.tuple #[.pointer (some ⟨cb k, 0, none⟩), .bool true]) (by rw [HG.out]; rfl) ?_))
    go_ret2
    exact ⟨by rw [HR.out]; rfl, rfl⟩

/-- what Column comes to -/
def ColEnd (w : World) (K : Int) (rows : List RowM) (kind : Int) (e : Ending) (w' : World) : Prop :=
  Below w.heap.size w w' ∧ match ofR K kind with
    | (some k, _) => ∃ v, e = .returned (.tuple #[v, .int .i64 0]) ∧ OwnI w' w.heap.size v (colOf rows k)
    | (none, n) => e = .returned (.tuple #[.slice none 0 0, .int .i64 n])

end Go.Proofs.YtpgcghnlepnoiaaGreatDoor

/-
  The contract of Table.Remove.
-/
namespace Go.Proofs.YtpgcghnlepnoiaaGreatDoor
open Go.RowKit

/-- a list without its place i: the last one takes it -/
def cutAt {α : Type} (d : α) (l : List α) (i : Nat) : List α := (l.set i (l.getD (l.length - 1) d)).take (l.length - 1)
def removeR (rows : List RowM) (row : Int) : List RowM × RowM × Int := if isRowB rows.length row then (cutAt zeroRow rows row.toNat, rows.getD row.toNat zeroRow, 0) else (rows, zeroRow, 5)
theorem cutAt_len {α : Type} (d : α) (l : List α) (i : Nat) : (cutAt d l i).length = l.length - 1 := by unfold cutAt; rw [List.length_take, List.length_set]; omega
theorem cutAt_map {α β : Type} (d : α) (d' : β) (f : α → β) (l : List α) (i : Nat) (hi : i < l.length) : (cutAt d l i).map f = cutAt d' (l.map f) i := by
  unfold cutAt
  rw [List.map_take, List.map_set, List.length_map]
  congr 2
  simp only [List.getD, List.getElem?_map, List.getElem?_eq_getElem (show l.length - 1 < l.length by omega), Option.map_some, Option.getD_some]
theorem cutAt_mem {α : Type} {d : α} {l : List α} {i : Nat} {x : α} (hi : i < l.length) (h : x ∈ cutAt d l i) : x ∈ l := by
  unfold cutAt at h
  rcases List.mem_or_eq_of_mem_set (List.mem_of_mem_take h) with h | h
  · exact h
  · rw [h]
    simp only [List.getD, List.getElem?_eq_getElem (show l.length - 1 < l.length by omega), Option.getD_some]
    exact List.getElem_mem _

theorem perm_rem {α : Type} (M P R B S : α) (L : List α) : (M :: P :: R :: B :: S :: L).Perm (B :: S :: ([P, R, M] ++ L)) := by
  have h1 : (M :: P :: R :: B :: S :: L).Perm ((M :: P :: R :: []) ++ ([B, S] ++ L)) := List.Perm.refl _
  have h2 : ((M :: P :: R :: []) ++ ([B, S] ++ L)).Perm ([B, S] ++ ((M :: P :: R :: []) ++ L)) := by
    rw [← List.append_assoc, ← List.append_assoc]
    exact List.Perm.append_right L List.perm_append_comm
  have h3 : (M :: P :: R :: ([] : List α)).Perm [P, R, M] := (List.Perm.swap _ _ _).trans ((List.Perm.swap _ _ _).cons _)
  exact h2.trans (List.Perm.append_left [B, S] (List.Perm.append_right L h3))

set_option maxRecDepth 100000 in
theorem tremove_any (p : Nat) (K : Int) (rows : List RowM) (row : Int) (F : Nat → Prop) (w : World) (h : (Tbl p K rows).at_ w F) (hl : rows.length ≤ 10000) :
    Calls Tryz.prog 132 #[.pointer (some ⟨p, 0, none⟩), .int .i64 row] w fun e w' => e = .returned (.tuple #[.agg (ints (removeR rows row).2.1.list), .int .i64 (removeR rows row).2.2]) ∧ (Tbl p K (removeR rows row).1).at_ w' (Plus F w w') ∧ Only F w w' := by
  have hT := h.1
  have HI0 := Lib.hid (In.one (A := Tbl p K rows) h)
  clear h
  go_enter Tryz.func132, Tryz.ntmps132
  go_upto_region 1 with (fail)
  refine wp_abs (In F w [Box w.heap.size 51 (ints zeroRow.list), Tbl p K rows]) (HI0.out.alloc 51 (ints zeroRow.list)) ?_
  generalize w.heap.size = rs
  intro w1 hI1
  have HI1 := Lib.hid hI1
  obtain ⟨F1, hA⟩ := hI1.swap.head
  obtain ⟨hv, mb, cb, hS⟩ := Tbl.see hA
  clear HI0 hI1 hA
  go_wp2_with fail
  refine (trow_any row w1 hS (by omega)).mono ?_
  rintro e w2 ⟨rfl, hb2⟩
  have HI2 := Lib.hid (HI1.out.below hb2)
  clear HI1 hb2 hS
  have hlen : (rowR rows row).1.list.length = 11 := by have := rowR_len hT row; simp [RowM.list, Beast.list, this]
  cases hr : isRowB rows.length row
  · have HR : Hid (rowR rows row = (zeroRow, 5)) := by unfold Hid rowR; rw [hr]; rfl
    have HR2 : Hid (removeR rows row = (rows, zeroRow, 5)) := by unfold Hid removeR; rw [hr]; rfl
    rw [HR.out]
    clear hr hlen
    go_upto_region 2 with (fail)
    refine wp_abs (In F w [Box w2.heap.size 51 (ints zeroRow.list), Box rs 51 (ints zeroRow.list), Tbl p K rows]) (HI2.out.struct 51 zeroRow.list zeroRow.list rfl) ?_
    generalize w2.heap.size = rb
    intro w3 hI3
    have q1 : row? w3 rb 0 11 = some (ints zeroRow.list) := hI3.blk.row_all rfl
    have f1 : fits w3 rs 0 11 = true := hI3.swap.blk.fits 0 11 (by rw [ints_size]; decide)
    have HI4 := Lib.hid (hI3.swap.put_all zeroRow.list rfl)
    clear hI3 HI2
    go_wp2_with fail
    refine bodyPost_row_tmp rfl rs 51 (ints zeroRow.list) (.int .i64 5) _ rfl rfl HI4.out.blk Tryz.underlying51 rfl (by rw [ints_size]; exact row_info) rfl ?_
    rw [HR2.out]
    obtain ⟨g1, g2⟩ := HI4.out.drop.drop.done
    exact ⟨rfl, g1, g2⟩
  · have HR : Hid (rowR rows row = (rows.getD row.toNat zeroRow, 0)) := by unfold Hid rowR; rw [hr]; rfl
    have HR2 : Hid (removeR rows row = (cutAt zeroRow rows row.toNat, rows.getD row.toNat zeroRow, 0)) := by unfold Hid removeR; rw [hr]; rfl
    simp only [isRowB, Bool.and_eq_true, decide_eq_true_eq] at hr
    obtain ⟨i, rfl⟩ : ∃ i : Nat, row = i := ⟨row.toNat, by omega⟩
    have hil : i < rows.length := by omega
    rw [HR.out] at hlen ⊢
    rw [Int.toNat_natCast] at HR2 hlen ⊢
    clear hr HR
    generalize hxs : (rows.getD i zeroRow).list = xs at *
    have HXS := Lib.hid hxs
    clear hxs
    go_upto_region 2 with (fail)
    refine wp_abs (In F w [Tbl p K rows, Box w2.heap.size 51 (ints xs), Box rs 51 (ints zeroRow.list)]) ((HI2.out.struct 51 zeroRow.list xs hlen).third) ?_
    generalize w2.heap.size = rb
    clear HI2
    intro w3 hI3
    obtain ⟨_, hK, hv, mb, cb, hI4⟩ := hI3.openTbl
    have HI4 : Hid (In F w ([Box p 181 #[.int .i64 K, hv, .map (some mb)], RowA 46 2 hv rows.length (rows.flatMap fun r => hC r.h), PtrMap mb ((tks K).map fun k : Nat => ((k : Int), cb k)), Box rb 51 (ints xs), Box rs 51 (ints zeroRow.list)] ++ (tks K).map fun k => ColA (cb k) (colOf rows k)) w3) :=
      hI4.perm (List.Perm.append_left [_, _, _] List.perm_append_comm)
    clear hI3 hI4
    obtain ⟨hB4, hO4, hN4⟩ := In.sliceAt HI4.out
    have HK := Lib.hid hK
    have hfm : (rows.map (·.h)).flatMap hC = rows.flatMap fun r => hC r.h := by rw [List.flatMap_map]
    have hlm : (rows.map (·.h)).length = rows.length := List.length_map ..
    have HO4 : w3.ownsRow 0 46 2 hv (rows.map (·.h)).length ((rows.map (·.h)).flatMap hC) := by rw [hfm, hlm]; exact hO4
    have HO5 := Lib.hid HO4
    clear hK hO4 HO4 hfm
    go_wp2_with fail
    refine (removeH_any p 1 181 #[.int .i64 K, hv, .map (some mb)] hv (rows.map (·.h)) i w3 hB4 rfl HO5.out hN4 (by rw [hlm]; omega) (by rw [hlm]; exact hil)).mono ?_
    rintro e w5 ⟨rfl, hE⟩
    have hE' : AddEnd w3 w5 p 181 #[.int .i64 K, hv, .map (some mb)] 1 hv 46 2 (rows.length - 1) ((cutAt zeroRow rows i).flatMap fun r => hC r.h) := by
      have e1 : (cutAt zeroRow rows i).flatMap (fun r => hC r.h) = (cutAt (0, 0) (rows.map (·.h)) i).flatMap hC := by rw [← cutAt_map zeroRow (0, 0) (·.h) rows i hil, List.flatMap_map]
      rw [e1]
      unfold cutAt
      rw [hlm] at hE ⊢
      exact hE
    obtain ⟨hv', hI6⟩ := In.added HI4.out hE'
    have HCOL : Hid (∀ k, cutAt 0 (colOf rows k) i = colOf (cutAt zeroRow rows i) k) := fun k => (cutAt_map zeroRow 0 (fun r : RowM => r.b.v.getD k 0) rows i hil).symm
    have HTR : Hid (TRows K (cutAt zeroRow rows i)) := fun r hr => hT r (cutAt_mem hil hr)
    have hcl : (cutAt zeroRow rows i).length = rows.length - 1 := cutAt_len _ _ _
    have HCL := Lib.hid hcl
    generalize hrows' : cutAt zeroRow rows i = rows' at *
    have HI6 : Hid (In F w ([PtrMap mb ((tks K).map fun k : Nat => ((k : Int), cb k)), Box p 181 #[.int .i64 K, hv', .map (some mb)], RowA 46 2 hv' (rows.length - 1) (rows'.flatMap fun r => hC r.h), Box rb 51 (ints xs), Box rs 51 (ints zeroRow.list)] ++ (tks K).map fun k => ColA (cb k) (colOf rows k)) w5) := In.third hI6
    have c1 : w5.cell? ⟨p, 2, none⟩ = some (.map (some mb)) := (In.swap HI6.out).blk.cell 2
    clear hE hE' hI6 HI4 hB4 hN4 HO5 hcl hrows' hlm
    go_wp2_with (at_range; go_loud (refine wpList_rangeOver rfl _ 179 182 rfl Tryz.underlying179 mb _ rfl (In.mapAt HI6.out) ?_))
    intro w6 hr6 hb6 hs6
    have HI7 := Lib.hid (In.ranged HI6.out hr6 hb6 hs6)
    generalize w5.heap.size = ri at *
    clear hr6 hb6 hs6 c1
    go_wp2_with fail
    go_loopw [9] (fun _ w' => ∃ left, In F w ([RangeA (Value.int .i64) ptrV goodI mb ri ((tks K).map fun k : Nat => ((k : Int), cb k)) left, Box p 181 #[.int .i64 K, hv', .map (some mb)], RowA 46 2 hv' (rows.length - 1) (rows'.flatMap fun r => hC r.h), Box rb 51 (ints xs), Box rs 51 (ints zeroRow.list)] ++
      (tks K).map fun k : Nat => ColA (cb k) (if (k : Int) ∈ mkeys left then colOf rows k else colOf rows' k)) w') (fun _ w' => w'.rangeLeft mb ri)
    case atStart =>
      refine ⟨(tks K).map fun k : Nat => ((k : Int), cb k), ?_⟩
      have : (tks K).map (fun k : Nat => ColA (cb k) (if (k : Int) ∈ mkeys ((tks K).map fun k : Nat => ((k : Int), cb k)) then colOf rows k else colOf rows' k)) = (tks K).map fun k : Nat => ColA (cb k) (colOf rows k) := by
        apply List.map_congr_left
        intro k hk
        rw [if_pos]
        simp only [mkeys, List.map_map]
        exact List.mem_map.2 ⟨k, hk, rfl⟩
      rw [this]; exact HI7.out
    case round =>
      clear HI7 HI6
      obtain ⟨left, hI⟩ := hrel
      have HI := Lib.hid hI
      clear hI
      go_wp2_with (at_next; go_loud (refine wpList_nextOf keyI rfl _ rfl mb ri _ left rfl (In.rangeAt HI.out) ?_ ?_))
      · intro hl0
        subst hl0
        have HI8 : Hid (In F w (Box rb 51 (ints xs) :: Box rs 51 (ints zeroRow.list) :: (tblParts p K hv' mb cb rows' (colOf rows'))) wr) := by
          have h1 := In.unranged HI.out
          have e1 : (tks K).map (fun k : Nat => ColA (cb k) (if (k : Int) ∈ mkeys ([] : List (Int × Nat)) then colOf rows k else colOf rows' k)) = (tks K).map (fun k : Nat => ColA (cb k) (colOf rows' k)) := by
            apply List.map_congr_left
            intro k _
            rw [if_neg (by simp [mkeys])]
          have h2 : In F w (PtrMap mb ((tks K).map fun k : Nat => ((k : Int), cb k)) :: Box p 181 #[.int .i64 K, hv', .map (some mb)] :: RowA 46 2 hv' (rows.length - 1) (rows'.flatMap fun r => hC r.h) :: Box rb 51 (ints xs) :: Box rs 51 (ints zeroRow.list) :: (tks K).map (fun k : Nat => ColA (cb k) (colOf rows' k))) wr := by rw [← e1]; exact h1
          unfold tblParts
          rw [HCL.out]
          exact h2.perm (perm_rem _ _ _ _ _ _)
        have q1 : row? wr rb 0 11 = some (ints xs) := HI8.out.blk.row_all hlen
        have f1 : fits wr rs 0 11 = true := HI8.out.swap.blk.fits 0 11 (by rw [ints_size]; decide)
        have HI9 := Lib.hid (HI8.out.swap.put_all xs hlen)
        have HLEN := Lib.hid hlen
        go_wp2_with fail
        refine bodyPost_row_tmp rfl rs 51 (ints xs) (.int .i64 0) _ rfl rfl HI9.out.blk Tryz.underlying51 rfl (by rw [ints_size, HLEN.out]; exact row_info) rfl ?_
        rw [HR2.out]
        have hIT := In.shutTbl (l := []) HTR.out HK.out (by rw [List.append_nil]; exact HI9.out.drop.drop)
        obtain ⟨g1, g2⟩ := hIT.done
        exact ⟨by rw [← HXS.out], g1, g2⟩
      · intro x v w7 hx hr7 ho7 hs7 hlt7 hen
        obtain ⟨k, hk, hke⟩ := List.mem_map.1 ((In.rangeAt HI.out).sub _ hx)
        injection hke with e1 e2
        subst e1; subst e2
        have HI7 : Hid (In F w ([RangeA (Value.int .i64) ptrV goodI mb ri ((tks K).map fun k : Nat => ((k : Int), cb k)) (mdel left (k : Int)), Box p 181 #[.int .i64 K, hv', .map (some mb)], RowA 46 2 hv' (rows.length - 1) (rows'.flatMap fun r => hC r.h), Box rb 51 (ints xs), Box rs 51 (ints zeroRow.list)] ++
          (tks K).map fun k : Nat => ColA (cb k) (if (k : Int) ∈ mkeys left then colOf rows k else colOf rows' k)) w7) := In.stepped HI.out hr7 ho7
        have HK2 := Lib.hid hk
        have HX := Lib.hid hx
        have HLT := Lib.hid hlt7
        clear hr7 ho7 hs7 hlt7 hk hx
        go_wp2_with fail
        obtain ⟨F1, hA, _, hback⟩ := In.openAt HI7.out (tks_nodup K) HK2.out
        have hmem : (k : Int) ∈ mkeys left := List.mem_map.2 ⟨_, HX.out, rfl⟩
        rw [if_pos hmem] at hA
        obtain ⟨v, hB, hO, hN, hadd⟩ := ColAt.parts hA
        have HB := Lib.hid hback
        have HADD := Lib.hid hadd
        have hlc : (colOf rows k).length = rows.length := by unfold colOf; rw [List.length_map]
        refine (removeI_any (cb k) 0 184 #[v] v (colOf rows k) i w7 hB rfl hO hN (by omega) (by omega)).mono ?_
        rintro e w8 ⟨rfl, hE⟩
        have hE2 : AddEnd w7 w8 (cb k) 184 #[v] 0 v 3 1 (colOf rows' k).length ((colOf rows' k).flatMap intC) := by
          rw [← HCOL.out k, cutAt_len]; exact hE
        obtain ⟨hC2, hO2⟩ := HADD.out _ _ hE2
        have HI8 := Lib.hid (HB.out _ (ColA (cb k) (colOf rows' k)) hC2 hO2)
        clear hA hB hO hN hadd hback HB HADD hlc hE hE2 hC2 hO2 HI7 hmem
        go_wp2_with fail
        go_roundw
        case rel =>
          refine ⟨mdel left (k : Int), ?_⟩
          have : (tks K).map (fun j : Nat => ColA (cb j) (if (j : Int) ∈ mkeys (mdel left (k : Int)) then colOf rows j else colOf rows' j)) =
              (tks K).map (fun j : Nat => if j = k then ColA (cb k) (colOf rows' k) else ColA (cb j) (if (j : Int) ∈ mkeys left then colOf rows j else colOf rows' j)) := by
            apply List.map_congr_left
            intro j hj
            by_cases hjk : j = k
            · subst hjk
              rw [if_neg, if_pos rfl]
              intro hm
              obtain ⟨q, hq, e⟩ := List.mem_map.1 hm
              exact (mem_mdel.1 hq).2 e
            · rw [if_neg hjk]
              have : (j : Int) ∈ mkeys (mdel left (k : Int)) ↔ (j : Int) ∈ mkeys left := by
                constructor
                · intro hm; obtain ⟨q, hq, e⟩ := List.mem_map.1 hm; exact List.mem_map.2 ⟨q, (mem_mdel.1 hq).1, e⟩
                · intro hm; obtain ⟨q, hq, e⟩ := List.mem_map.1 hm; exact List.mem_map.2 ⟨q, mem_mdel.2 ⟨hq, by simp only [e]; omega⟩, e⟩
              by_cases hm : (j : Int) ∈ mkeys left
              · rw [if_pos hm, if_pos (this.2 hm)]
              · rw [if_neg hm, if_neg (fun h => hm (this.1 h))]
          rw [this]; exact HI8.out
        case measure => rw [(In.rangeAt HI8.out).count, (In.rangeAt HI.out).count]; exact HLT.out

end Go.Proofs.YtpgcghnlepnoiaaGreatDoor
