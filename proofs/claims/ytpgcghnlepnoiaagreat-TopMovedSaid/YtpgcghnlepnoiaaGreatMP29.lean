/-
  Several texts in one (merged by a program of mine): TableCol.
-/
import Derived.Test.YtpgcghnlepnoiaaGreatMP28
import Derived.BigRegion
import Derived.BigQuiet
import Derived.Deep.DeepCutAuto
import Derived.StillTailTactics
set_option linter.unusedVariables false
set_option linter.unusedSimpArgs false
set_option linter.unusedSectionVars false
/-
  Contracts of the columns' methods.
-/
namespace Go.Proofs.YtpgcghnlepnoiaaGreat
open Go.RowKit

theorem own_cut {w : World} {B : Nat} {e : TypeId} {size n c m : Nat} {A : Option Addr} {xs : List Value} (h : w.ownsRow B e size (.slice A n c) n xs) (hm : m ≤ n) : w.ownsRow B e size (.slice A m c) m (xs.take (m * size)) := by
  obtain ⟨h1, h2⟩ := h
  have hle : m * size ≤ n * size := Nat.mul_le_mul_right _ hm
  refine ⟨by rw [List.length_take]; omega, ?_⟩
  rcases h2 with ⟨e1, h0⟩ | ⟨g, cap, cur, e1, hb, hg, h3, h4, h5, h6⟩
  · injection e1 with e1 e2 e3
    have : m = 0 := by omega
    subst this
    exact Or.inl ⟨by rw [e1, e3], rfl⟩
  · injection e1 with e1 e2 e3
    subst e3
    refine Or.inr ⟨g, c, cur, by rw [e1], hb, hg, by omega, h4, h5, ?_⟩
    rw [← h6, List.take_take, Nat.min_eq_left hle]
theorem flat_take {α : Type} {size : Nat} {f : α → List Value} (hf : ∀ x, (f x).length = size) : ∀ (l : List α) (k : Nat), (l.flatMap f).take (k * size) = (l.take k).flatMap f
  | [], k => by simp
  | a :: l, 0 => by simp
  | a :: l, k + 1 => by
    rw [List.flatMap_cons, List.take_succ_cons, List.flatMap_cons, List.take_append, hf, Nat.add_mul, Nat.one_mul, List.take_of_length_le (by rw [hf]; omega), Nat.add_sub_cancel, flat_take hf l k]
theorem flat_drop {α : Type} {size : Nat} {f : α → List Value} (hf : ∀ x, (f x).length = size) : ∀ (l : List α) (k : Nat), (l.flatMap f).drop (k * size) = (l.drop k).flatMap f
  | [], k => by simp
  | a :: l, 0 => by simp
  | a :: l, k + 1 => by
    rw [List.flatMap_cons, List.drop_succ_cons, List.drop_append, hf, Nat.add_mul, Nat.one_mul, List.drop_of_length_le (by rw [hf]; omega), Nat.add_sub_cancel, flat_drop hf l k, List.nil_append]
/-- a row written over -/
theorem own_put {α : Type} {enc : α → List Int} {w : World} {B : Nat} {e : TypeId} {size c g k : Nat} {rows : List α} (hs : ∀ x, (enc x).length = size)
    (h : w.ownsRow B e size (.slice (some ⟨g, 0, none⟩) rows.length c) rows.length (rows.flatMap fun x => (enc x).map (Value.int .i64))) (hk : k < rows.length) (x : α) :
    (putRow w g (k * size) (enc x)).ownsRow B e size (.slice (some ⟨g, 0, none⟩) rows.length c) rows.length ((rows.set k x).flatMap fun x => (enc x).map (Value.int .i64)) := by
  have hsz : ∀ x : α, ((enc x).map (Value.int .i64)).length = size := fun x => by rw [List.length_map, hs]
  obtain ⟨h1, h2⟩ := h
  refine ⟨by rw [flat_len hsz, List.length_set], ?_⟩
  rcases h2 with ⟨e1, h0⟩ | ⟨g', cap, cur, e1, hb, hg, h3, h4, h5, h6⟩
  · omega
  · injection e1 with e1 e2 e3
    injection e1 with e1
    injection e1 with e1
    subst e1; subst e3
    have hle : (k + 1) * size ≤ rows.length * size := Nat.mul_le_mul_right _ (by omega)
    have hle2 : rows.length * size ≤ c * size := Nat.mul_le_mul_right _ h3
    rw [Nat.add_mul, Nat.one_mul] at hle
    refine Or.inr ⟨g, c, (cur.toList.take (k * size) ++ (enc x).map (Value.int .i64) ++ cur.toList.drop (k * size + (enc x).length)).toArray, rfl, hb, ?_, h3, h4, ?_, ?_⟩
    · simp [putRow, Array.getElem?_modify, hg]
    · simp [hs]; omega
    · rw [List.toList_toArray]
      have hx := hsz x
      have hl1 : (cur.toList.take (k * size)).length = k * size := by rw [List.length_take]; simp; omega
      have e2 : rows = rows.take k ++ rows[k] :: rows.drop (k + 1) := by rw [← List.drop_eq_getElem_cons, List.take_append_drop]
      have e3 : rows.set k x = rows.take k ++ x :: rows.drop (k + 1) := by
        conv => lhs; rw [e2]
        rw [List.set_append_right _ _ (by rw [List.length_take]; omega), List.length_take, Nat.min_eq_left (by omega), Nat.sub_self]; rfl
      have e4 : (rows.take k).flatMap (fun x => (enc x).map (Value.int .i64)) = cur.toList.take (k * size) := by
        have : cur.toList.take (k * size) = (cur.toList.take (rows.length * size)).take (k * size) := by rw [List.take_take, Nat.min_eq_left (by omega)]
        rw [this, h6, flat_take hsz]
      have e5 : (rows.drop (k + 1)).flatMap (fun x => (enc x).map (Value.int .i64)) = (cur.toList.drop (k * size + size)).take ((rows.length - (k + 1)) * size) := by
        have : (cur.toList.drop (k * size + size)).take ((rows.length - (k + 1)) * size) = (cur.toList.take (rows.length * size)).drop ((k + 1) * size) := by
          rw [List.drop_take, Nat.add_mul, Nat.one_mul]
          congr 1
          rw [Nat.sub_mul, Nat.add_mul, Nat.one_mul]
        rw [this, h6, flat_drop hsz]
      rw [e3, List.flatMap_append, List.flatMap_cons, e4, e5, ← List.append_assoc]
      generalize cur.toList.take (k * size) = P at hl1 ⊢
      generalize (enc x).map (Value.int .i64) = X at hx ⊢
      have hPX : (P ++ X).length = k * size + size := by rw [List.length_append, hl1, hx]
      rw [List.take_append, List.take_of_length_le (by rw [hPX]; omega), hPX, hs]
      congr 1
      congr 1
      rw [Nat.sub_mul, Nat.add_mul, Nat.one_mul]

theorem own_fits {w : World} {B : Nat} {e : TypeId} {size n c g k : Nat} {xs : List Value} (h : w.ownsRow B e size (.slice (some ⟨g, 0, none⟩) n c) n xs) (hk : k < n) : fits w g (k * size) size = true := by
  obtain ⟨h1, h2 | ⟨g', cap, cur, e1, _, hg, h3, _, h5, h6⟩⟩ := h
  · cases h2.1
  · injection e1 with e1 e2 e3
    injection e1 with e1
    injection e1 with e1
    subst e1
    unfold fits
    rw [hg]
    have hle : (k + 1) * size ≤ cap * size := Nat.mul_le_mul_right _ (by omega)
    rw [Nat.add_mul, Nat.one_mul] at hle
    simp; omega
/-- a slice in a cell of block p, behind a method that appended to it -/
def AddEnd (w w' : World) (p : Nat) (T : TypeId) (cs : Array Value) (o : Nat) (v : Value) (E : TypeId) (size n : Nat) (xs : List Value) : Prop :=
  ∃ v', Blk w' p T (cs.setIfInBounds o v') ∧ w'.ownsRow 0 E size v' n xs ∧ v'.ownBlock ≠ some p ∧ (∀ k, v'.ownBlock = some k → v.ownBlock = some k ∨ w.heap.size ≤ k) ∧ Only (fun k => k = p ∨ v.ownBlock = some k) w w'

theorem add_end {w w3 : World} {p o n size : Nat} {T E : TypeId} {cs : Array Value} {v v' : Value} {O : Obj} {xs : List Value} (hB : Blk w p T cs) (hne : v.ownBlock ≠ some p) (hown3 : w3.ownsRow 0 E size v' n xs) (hg3 : (w.alloc O).grownBy w3 v.ownBlock)
    (hat : v'.ownBlock = v.ownBlock ∨ v'.ownBlock = some (w.heap.size + 1)) : Blk w3 p T cs ∧ AddEnd w (w3.setCell ⟨p, o, none⟩ v') p T cs o v E size n xs := by
  have hO3 : Only (fun k => v.ownBlock = some k) w w3 := (Only.refl.alloc _).trans (Only.grown hg3 fun k hk => hk)
  have hB3 := hO3.blk hB hne
  have hN3 : v'.ownBlock ≠ some p := by
    rcases hat with e | e
    · rw [e]; exact hne
    · rw [e]; intro h; injection h with h; have := hB.lt; omega
  refine ⟨hB3, v', hB3.set o v', ownsRow_setCell_other hown3 hN3 _, hN3, fun k hk => ?_, (hO3.mono (G := fun k => k = p ∨ v.ownBlock = some k) fun k _ hk => Or.inr hk).setCell (Or.inl (Or.inl rfl)) _ _⟩
  rcases hat with e | e
  · rw [e] at hk; exact Or.inl hk
  · rw [e] at hk; injection hk with hk; exact Or.inr (by omega)

theorem int_parts : (Tryz.prog.info? 3).map (fun i => (i.zero, i.size, i.bytes)) = some (some (.int .i64 0), 1, 8) := by kernel_rfl
theorem handle_parts2 : (Tryz.prog.info? 30).map (fun i => (i.zero, i.size, i.bytes)) = some (some (.agg #[.int .i64 0, .int .i64 0]), 2, 16) := by kernel_rfl

theorem addI_any (p o : Nat) (T : TypeId) (cs : Array Value) (v : Value) (n : Nat) (xs : List Value) (x : Int) (w : World) (hB : Blk w p T cs) (hv : cs[o]? = some v) (ho : w.ownsRow 0 3 1 v n xs) (hne : v.ownBlock ≠ some p) (hl : n ≤ 100000) :
    Calls Tryz.prog 85 #[.pointer (some ⟨p, o, none⟩), .int .i64 x] w fun e w' => e = .returned (.tuple #[]) ∧ AddEnd w w' p T cs o v 3 1 (n + 1) (xs ++ [.int .i64 x]) := by
  obtain ⟨A, c, rfl, hc1, hc2, _⟩ := own_form ho
  have HO := Lib.hid ho
  have HB := Lib.hid hB
  have HN := Lib.hid hne
  have c1 : w.cell? ⟨p, o, none⟩ = some (.slice A n c) := (hB.cell o).trans hv
  obtain ⟨i0, hi0, hz0, hz1, hz2⟩ := info_parts int_parts
  clear ho hB hne hv
  go_enter Tryz.func85, Tryz.ntmps85
  go_wp2_with (at_builtin; refine wpList_append1_at rfl _ _ _ rfl 0 3 i0 _ 1 8 Tryz.underlying44 hi0 hz0 hz1 hz2 rfl (by decide) (.slice A n c) n xs rfl HO.out [.int .i64 x] rfl rfl (by simp [Value.oneCell']) (by unfold maxLen; omega) (by omega) (Nat.zero_le _) ?_)
  intro v' w3 hown3 hg3 hat
  obtain ⟨A4, c4, rfl, _, _, _⟩ := own_form hown3
  obtain ⟨hB3, hE⟩ := add_end (o := o) HB.out HN.out hown3 hg3 hat
  have HE := Lib.hid hE
  have c2 : w3.frozen? ⟨p, o, none⟩ = false := hB3.frozen o
  have c3 : w3.cell? ⟨p, o, none⟩ = some (.slice A n c) := (hB3.cell o).trans ((HB.out.cell o).symm.trans c1)
  clear hE hB3 hown3 hg3 hat
  go_wp2_with fail
  go_end0
  exact ⟨rfl, HE.out⟩

theorem addH_any (p o : Nat) (T : TypeId) (cs : Array Value) (v : Value) (n : Nat) (xs : List Value) (a b : Int) (w : World) (hB : Blk w p T cs) (hv : cs[o]? = some v) (ho : w.ownsRow 0 30 2 v n xs) (hne : v.ownBlock ≠ some p) (hl : n ≤ 100000) :
    Calls Tryz.prog 84 #[.pointer (some ⟨p, o, none⟩), .agg #[.int .i64 a, .int .i64 b]] w fun e w' => e = .returned (.tuple #[]) ∧ AddEnd w w' p T cs o v 30 2 (n + 1) (xs ++ [.int .i64 a, .int .i64 b]) := by
  obtain ⟨A, c, rfl, hc1, hc2, _⟩ := own_form ho
  have HO := Lib.hid ho
  have HB := Lib.hid hB
  have HN := Lib.hid hne
  have c1 : w.cell? ⟨p, o, none⟩ = some (.slice A n c) := (hB.cell o).trans hv
  obtain ⟨i0, hi0, hz0, hz1, hz2⟩ := info_parts handle_parts2
  clear ho hB hne hv
  go_enter Tryz.func84, Tryz.ntmps84
  go_upto_region 1 with (fail)
  have hpl := HB.out.lt
  refine wp_abs (fun w' => Blk w' w.heap.size 30 (ints [a, b]) ∧ Below w.heap.size w w') ⟨Blk.new _ _ _, (Below.refl _ _).alloc (Nat.le_refl _) _⟩ ?_
  rintro w1 ⟨hb1, hb2⟩
  have r1 : row? w1 w.heap.size 0 2 = some #[.int .i64 a, .int .i64 b] := hb1.row_all rfl
  have HO1 : Hid (w1.ownsRow 0 30 2 (.slice A n c) n xs) := own_below HO.out hb2
  have HB1 : Hid (Blk w1 p T cs) := HB.out.after hb2
  have c1 : w1.cell? ⟨p, o, none⟩ = some (.slice A n c) := (HB1.out.cell o).trans ((HB.out.cell o).symm.trans c1)
  have c1a : (w1.alloc (.cells #[.int .i64 a, .int .i64 b] 30)).cell? ⟨p, o, none⟩ = some (.slice A n c) := (((Below.refl _ w1).alloc (Nat.le_refl _) _).cell (p := ⟨p, o, none⟩) HB1.out.lt).trans c1
  have HBL := Lib.hid hb2
  clear hb1 hb2
  go_region_law (refine step_append1 (w := w1.drew) rfl (.tmp 8) (.tmp 10) 88 rfl 0 30 i0 _ 2 16 Tryz.underlying88 hi0 hz0 hz1 hz2 rfl (by decide) (.slice A n c) n xs (by simp [Act.eval, Act.put]) HO1.out [.int .i64 a, .int .i64 b] (by simp [Act.eval, Act.put]) rfl (by simp [Value.oneCell']) (by unfold maxLen; omega) (by omega) (Nat.zero_le _) ?_; intro v' w3 hown3 hg3 hat; obtain ⟨A4, c4, rfl, _, _, _⟩ := own_form hown3; obtain ⟨hB3, hE⟩ := add_end (w := w1.drew) (o := o) HB1.out.drew HN.out hown3 hg3 hat; have HE := Lib.hid hE; have c2 : w3.frozen? ⟨p, o, none⟩ = false := hB3.frozen o; have c3 : w3.cell? ⟨p, o, none⟩ = some (.slice A n c) := (hB3.cell o).trans ((HB1.out.cell o).symm.trans c1); clear hE hB3 hown3 hg3 hat)
  all_goals
    go_wp2_with fail
    go_end0
    refine ⟨rfl, ?_⟩
    obtain ⟨v', h1, h2, h3, h4, h5⟩ := HE.out
    exact ⟨v', h1, h2, h3, fun k hk => by rcases h4 k hk with h | h; exact Or.inl h; exact Or.inr (Nat.le_trans HBL.out.size h), (Only.of_below HBL.out).trans (Only.refl.drew.trans h5)⟩

theorem removeH_any (p o : Nat) (T : TypeId) (cs : Array Value) (v : Value) (xs : List (Int × Int)) (k : Nat) (w : World) (hB : Blk w p T cs) (hv : cs[o]? = some v) (ho : w.ownsRow 0 30 2 v xs.length (xs.flatMap hC)) (hne : v.ownBlock ≠ some p) (hl : xs.length ≤ 100000) (hk : k < xs.length) :
    Calls Tryz.prog 87 #[.pointer (some ⟨p, o, none⟩), .int .i64 k] w fun e w' => e = .returned (.agg (ints (hL (xs.getD k (0, 0))))) ∧ AddEnd w w' p T cs o v 30 2 (xs.length - 1) (((xs.set k (xs.getD (xs.length - 1) (0, 0))).take (xs.length - 1)).flatMap hC) := by
  obtain ⟨A, c, rfl, hc1, hc2, hA⟩ := own_form ho
  obtain ⟨g, rfl⟩ := hA (by omega)
  obtain ⟨m, hm⟩ : ∃ m, xs.length = m + 1 := ⟨xs.length - 1, by omega⟩
  have hgp : g ≠ p := fun e => hne (by rw [e]; rfl)
  have hkm : (k : Int) < (m : Int) + 1 := by omega
  have hmc : (m : Int) + 1 ≤ c := by omega
  have hcc : (c : Int) ≤ 9223372036854775807 := by unfold maxLen at hc2; omega
  have hgl := (World.ownsRow.lt ho g rfl).2
  have r1 : row? w g (k * 2) 2 = some (ints (hL (xs.getD k (0, 0)))) := by
    rw [own_row ho hk, flat_at hC_len xs k hk]
    simp [List.getD, List.getElem?_eq_getElem hk]; rfl
  have r2 : row? w g (m * 2) 2 = some (ints (hL (xs.getD m (0, 0)))) := by
    rw [own_row ho (show m < xs.length by omega), flat_at hC_len xs m (by omega)]
    simp [List.getD, List.getElem?_eq_getElem (show m < xs.length by omega)]; rfl
  have HB := Lib.hid hB
  have HO := Lib.hid ho
  have HN := Lib.hid hne
  have hp := hB.lt
  have c0 : w.cell? ⟨p, o, none⟩ = some (.slice (some ⟨g, 0, none⟩) (m + 1) c) := by rw [← hm]; exact (hB.cell o).trans hv
  have HM := Lib.hid hm
  have HK := Lib.hid hk
  rw [hm, Nat.add_sub_cancel]
  clear ho hB hne hv hm hl hc1
  generalize hx1 : xs.getD k (0, 0) = x1 at *
  generalize hx2 : xs.getD m (0, 0) = x2 at *
  have HX2 := Lib.hid hx2
  obtain ⟨x1a, x1b⟩ := x1
  obtain ⟨x2a, x2b⟩ := x2
  change row? w g (k * 2) 2 = some (ints [x1a, x1b]) at r1
  change row? w g (m * 2) 2 = some (ints [x2a, x2b]) at r2
  clear hx1 hx2
  go_enter Tryz.func87, Tryz.ntmps87
  go_upto_region 1 with (fail)
  refine wp_abs (fun w' => Blk w' w.heap.size 30 (ints [0, 0]) ∧ Below w.heap.size w w') ⟨Blk.new _ _ _, (Below.refl _ _).alloc (Nat.le_refl _) _⟩ ?_
  rintro w1 ⟨hb1, hb2⟩
  have f1 : fits w1 w.heap.size 0 2 = true := hb1.fits 0 2 (by decide)
  have q1 : row? w1 g (k * 2) 2 = some (ints [x1a, x1b]) := (row_below hb2 hgl _ _).trans r1
  have q2 : row? w1 g (m * 2) 2 = some (ints [x2a, x2b]) := (row_below hb2 hgl _ _).trans r2
  have c1 : w1.cell? ⟨p, o, none⟩ = some (.slice (some ⟨g, 0, none⟩) (m + 1) c) := (hb2.cell (p := ⟨p, o, none⟩) hp).trans c0
  have hkx : k < xs.length := HK.out
  have hown1 : w1.ownsRow 0 30 2 (.slice (some ⟨g, 0, none⟩) xs.length c) xs.length (xs.flatMap hC) := own_below HO.out hb2
  have hgq : g ≠ w.heap.size := by omega
  have hpq : p ≠ w.heap.size := by omega
  have hO1 : Only (· = w.heap.size) w1 (putRow w1 w.heap.size 0 [x1a, x1b]) := Only.putRow _ _ _ _
  have hown2 : (putRow w1 w.heap.size 0 [x1a, x1b]).ownsRow 0 30 2 (.slice (some ⟨g, 0, none⟩) xs.length c) xs.length (xs.flatMap hC) := hO1.own hown1 fun q hq => by simp [Value.ownBlock] at hq; omega
  have f2 : fits w1 g (k * 2) 2 = true := own_fits hown1 hkx
  have hmm : (m : Int) < (m : Int) + 1 := by omega
  have hB2 : Blk (putRow w1 w.heap.size 0 [x1a, x1b]) p T cs := hO1.blk (HB.out.after hb2) hpq
  have c1' : (putRow w1 w.heap.size 0 [x1a, x1b]).cell? ⟨p, o, none⟩ = some (.slice (some ⟨g, 0, none⟩) (m + 1) c) := (hB2.cell o).trans ((HB.out.cell o).symm.trans c0)
  have q2' : row? (putRow w1 w.heap.size 0 [x1a, x1b]) g (m * 2) 2 = some (ints [x2a, x2b]) := by
    unfold row? at q2 ⊢
    rw [hO1.block g (by have := hb2.size; omega) hgq]; exact q2
  have f3 : fits (putRow w1 w.heap.size 0 [x1a, x1b]) g (k * 2) 2 = true := own_fits hown2 hkx
  have HR : Hid (Blk (putRow (putRow w1 w.heap.size 0 [x1a, x1b]) g (k * 2) [x2a, x2b]) w.heap.size 30 (ints [x1a, x1b]) ∧
      (putRow (putRow w1 w.heap.size 0 [x1a, x1b]) g (k * 2) [x2a, x2b]).ownsRow 0 30 2 (.slice (some ⟨g, 0, none⟩) xs.length c) xs.length ((xs.set k (x2a, x2b)).flatMap hC) ∧
      Blk (putRow (putRow w1 w.heap.size 0 [x1a, x1b]) g (k * 2) [x2a, x2b]) p T cs ∧ Only (fun q => q = p ∨ q = g) w (putRow (putRow w1 w.heap.size 0 [x1a, x1b]) g (k * 2) [x2a, x2b])) := by
    refine ⟨(hb1.put_all [x1a, x1b] rfl).put_far _ _ (Ne.symm hgq), ?_, hB2.put_far _ _ (Ne.symm hgp), ?_⟩
    · have := own_put (enc := hL) (fun _ => rfl) hown2 hkx (x2a, x2b)
      exact this
    · refine ((Only.of_below hb2).trans' hO1 fun q hq e => absurd e (by omega)).trans' (Only.putRow _ g _ _) fun q hq e => Or.inr e
  clear hown1 hown2 hO1 hB2
  go_wp2_with fail
  go_region
  clear c1 c1' q1 q2 q2' f1 f2 f3 hb1 hb2
  obtain ⟨h1, h2, h3, h4⟩ : Blk (putRow (putRow w1 w.heap.size 0 [x1a, x1b]) g (k * 2) [x2a, x2b]).drew w.heap.size 30 (ints [x1a, x1b]) ∧
      (putRow (putRow w1 w.heap.size 0 [x1a, x1b]) g (k * 2) [x2a, x2b]).drew.ownsRow 0 30 2 (.slice (some ⟨g, 0, none⟩) xs.length c) xs.length ((xs.set k (x2a, x2b)).flatMap hC) ∧
      Blk (putRow (putRow w1 w.heap.size 0 [x1a, x1b]) g (k * 2) [x2a, x2b]).drew p T cs ∧ Only (fun q => q = p ∨ q = g) w (putRow (putRow w1 w.heap.size 0 [x1a, x1b]) g (k * 2) [x2a, x2b]).drew :=
    ⟨HR.out.1, HR.out.2.1, HR.out.2.2.1, HR.out.2.2.2.drew⟩
  clear HR
  generalize (putRow (putRow w1 w.heap.size 0 [x1a, x1b]) g (k * 2) [x2a, x2b]).drew = w4 at *
  have c4 : w4.cell? ⟨p, o, none⟩ = some (.slice (some ⟨g, 0, none⟩) (m + 1) c) := (h3.cell o).trans ((HB.out.cell o).symm.trans c0)
  have c5 : w4.frozen? ⟨p, o, none⟩ = false := h3.frozen o
  have hl := h1.far (g' := p) (Ne.symm hpq) o (.slice (some ⟨g, 0, none⟩) m c)
  have c6 : row? (w4.setCell ⟨p, o, none⟩ (.slice (some ⟨g, 0, none⟩) m c)) w.heap.size 0 2 = some (ints [x1a, x1b]) := hl.row_all rfl
  have c7 : fits (w4.setCell ⟨p, o, none⟩ (.slice (some ⟨g, 0, none⟩) m c)) w.heap.size 0 2 = true := hl.fits 0 2 (by rw [ints_size]; exact Nat.le_refl 2)
  have hN : (Value.slice (some ⟨g, 0, none⟩) (m + 1) c).ownBlock ≠ some p := HN.out
  have h2b : w4.ownsRow 0 30 2 (.slice (some ⟨g, 0, none⟩) m c) m (((xs.set k (x2a, x2b)).take m).flatMap hC) := by
    have := own_cut h2 (m := m) (by have := HM.out; omega)
    rwa [flat_take hC_len] at this
  have h2c := ownsRow_setCell_other (a := ⟨p, o, none⟩) h2b hN (.slice (some ⟨g, 0, none⟩) m c)
  have hO2 : Only (· = w.heap.size) (w4.setCell ⟨p, o, none⟩ (.slice (some ⟨g, 0, none⟩) m c)) (putRow (w4.setCell ⟨p, o, none⟩ (.slice (some ⟨g, 0, none⟩) m c)) w.heap.size 0 [x1a, x1b]) := Only.putRow _ _ _ _
  have HE : Hid (AddEnd w (putRow (w4.setCell ⟨p, o, none⟩ (.slice (some ⟨g, 0, none⟩) m c)) w.heap.size 0 [x1a, x1b]) p T cs o (.slice (some ⟨g, 0, none⟩) (m + 1) c) 30 2 m (((xs.set k (x2a, x2b)).take m).flatMap hC)) := by
    refine ⟨.slice (some ⟨g, 0, none⟩) m c, (h3.set o _).put_far _ _ hpq, hO2.own h2c (fun q hq => by simp [Value.ownBlock] at hq; omega), hN, fun q hq => Or.inl hq, ?_⟩
    refine ((h4.mono (G := fun q => q = p ∨ (Value.slice (some ⟨g, 0, none⟩) (m + 1) c).ownBlock = some q) fun q _ hq => by rcases hq with h | h; exact Or.inl h; exact Or.inr (by rw [h]; rfl)).setCell (g := p) (Or.inl (Or.inl rfl)) o _).trans' hO2 fun q hq e => absurd e (by omega)
  have HBx : Hid (Blk (putRow (w4.setCell ⟨p, o, none⟩ (.slice (some ⟨g, 0, none⟩) m c)) w.heap.size 0 [x1a, x1b]) w.heap.size 30 (ints [x1a, x1b])) := hl.put_all [x1a, x1b] rfl
  clear h1 h2 h3 h4 hl h2b h2c hO2
  go_wp2_with fail
  refine bodyPost_row rfl w.heap.size 30 (ints [x1a, x1b]) _ rfl HBx.out Tryz.underlying30 rfl (by rw [ints_size]; exact handle_info) rfl ⟨rfl, ?_⟩
  exact HE.out

theorem removeI_any (p o : Nat) (T : TypeId) (cs : Array Value) (v : Value) (xs : List Int) (k : Nat) (w : World) (hB : Blk w p T cs) (hv : cs[o]? = some v) (ho : w.ownsRow 0 3 1 v xs.length (xs.flatMap fun x => [Value.int .i64 x])) (hne : v.ownBlock ≠ some p) (hl : xs.length ≤ 100000) (hk : k < xs.length) :
    Calls Tryz.prog 88 #[.pointer (some ⟨p, o, none⟩), .int .i64 k] w fun e w' => e = .returned (.int .i64 (xs.getD k 0)) ∧ AddEnd w w' p T cs o v 3 1 (xs.length - 1) (((xs.set k (xs.getD (xs.length - 1) 0)).take (xs.length - 1)).flatMap fun x => [Value.int .i64 x]) := by
  obtain ⟨A, c, rfl, hc1, hc2, hA⟩ := own_form ho
  obtain ⟨g, rfl⟩ := hA (by omega)
  obtain ⟨m, hm⟩ : ∃ m, xs.length = m + 1 := ⟨xs.length - 1, by omega⟩
  have hfl : ∀ x : Int, ([Value.int .i64 x] : List Value).length = 1 := fun _ => rfl
  have c1 : w.cell? ⟨p, o, none⟩ = some (.slice (some ⟨g, 0, none⟩) (m + 1) c) := by rw [← hm]; exact (hB.cell o).trans hv
  have c2 : w.frozen? ⟨p, o, none⟩ = false := hB.frozen o
  have d1 : w.cell? ⟨g, k, none⟩ = some (.int .i64 (xs.getD k 0)) := by
    rw [World.ownsRow.cellAt ho k (by omega), ← Nat.mul_one k, ← Nat.add_zero (k * 1), flat_get hfl xs k 0 hk (by omega)]
    simp [List.getD, List.getElem?_eq_getElem hk]
  have d2 : w.cell? ⟨g, m, none⟩ = some (.int .i64 (xs.getD m 0)) := by
    rw [World.ownsRow.cellAt ho m (by omega), ← Nat.mul_one m, ← Nat.add_zero (m * 1), flat_get hfl xs m 0 (by omega) (by omega)]
    simp [List.getD, List.getElem?_eq_getElem (show m < xs.length by omega)]
  have d3 : w.frozen? ⟨g, k, none⟩ = false := World.ownsRow.frozenAt ho k
  have hgp : g ≠ p := fun e => hne (by rw [e]; rfl)
  have hgp2 : p ≠ g := fun e => hgp e.symm
  have hkm : (k : Int) < (m : Int) + 1 := by omega
  have hmc : (m : Int) + 1 ≤ c := by omega
  have hcc : (c : Int) ≤ 9223372036854775807 := by unfold maxLen at hc2; omega
  have HE : Hid (AddEnd w ((w.setCell ⟨g, k, none⟩ (.int .i64 (xs.getD m 0))).setCell ⟨p, o, none⟩ (.slice (some ⟨g, 0, none⟩) m c)).drew p T cs o (.slice (some ⟨g, 0, none⟩) (m + 1) c) 3 1 m (((xs.set k (xs.getD m 0)).take m).flatMap fun x => [Value.int .i64 x])) := by
    have s1 := (World.ownsRow.stored ho (k * 1) (Value.int .i64 (xs.getD m 0))).1
    rw [← Nat.add_zero (k * 1), flat_set hfl xs k 0 (xs.getD m 0) _ hk (by omega) rfl, Nat.add_zero, Nat.mul_one] at s1
    rw [hm] at s1
    have s2 := own_cut s1 (m := m) (by omega)
    rw [flat_take hfl] at s2
    have hO1 : Only (fun q => q = p ∨ (Value.slice (some ⟨g, 0, none⟩) (m + 1) c).ownBlock = some q) w ((w.setCell ⟨g, k, none⟩ (.int .i64 (xs.getD m 0))).setCell ⟨p, o, none⟩ (.slice (some ⟨g, 0, none⟩) m c)) :=
      ((Only.refl (F := fun q => q = p ∨ (Value.slice (some ⟨g, 0, none⟩) (m + 1) c).ownBlock = some q)).setCell (g := g) (Or.inl (Or.inr rfl)) k _).setCell (g := p) (Or.inl (Or.inl rfl)) o _
    exact ⟨_, ((hB.far hgp2 _ _).set o _).drew, ownsRow_setCell_other (a := ⟨p, o, none⟩) s2 (by rw [hm] at hne; exact hne) _, by rw [hm] at hne; exact hne, fun q hq => Or.inl hq, hO1.drew⟩
  have HM := Lib.hid hm
  rw [hm, Nat.add_sub_cancel]
  rw [hm] at hv ho hne hl hc1 hk
  clear ho hB hne hv hfl hm
  generalize xs.getD k 0 = x1 at *
  generalize xs.getD m 0 = x2 at *
  go_enter Tryz.func88, Tryz.ntmps88
  go_wp2_with fail
  go_region
  go_wp2_with fail
  go_ret
  exact ⟨rfl, HE.out⟩

end Go.Proofs.YtpgcghnlepnoiaaGreat
