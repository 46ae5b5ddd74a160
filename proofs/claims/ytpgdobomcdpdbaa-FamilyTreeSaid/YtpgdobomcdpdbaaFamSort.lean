/-
  The sorts of a family: handles by family.Compare, bonds by their children; one element appended among other things in memory.
-/
import Derived.Test.YtpgdobomcdpdbaaFamCmp
import Derived.Test.YtpgdobomcdpdbaaSortLayHandle
import Derived.Test.YtpgdobomcdpdbaaSortLayBond
namespace Go.Proofs.Ytpgdobomcdpdbaa
open Go.RowKit Go.Sort

section
variable {G : Nat → Prop} {w0 w w' : World} {l : List Assn}
/-- one element more -/
theorem In.append1 {E : TypeId} {size n : Nat} {v v' : Value} {xs news : List Value} {o : Obj} (h : In G w0 (RowA E size v n xs :: l) w) (hown : w'.ownsRow 0 E size v' (n + 1) (xs ++ news)) (hg : (w.alloc o).grownBy w' v.ownBlock)
    (hor : v'.ownBlock = v.ownBlock ∨ v'.ownBlock = some (w.heap.size + 1)) : In G w0 (RowA E size v' (n + 1) (xs ++ news) :: l) w' := by
  obtain ⟨F1, ⟨h1, h2⟩, _, hback⟩ := h.open_
  refine hback (A' := RowA E size v' (n + 1) (xs ++ news)) ⟨hown, fun k hk => ?_⟩ ((Only.refl.alloc o).trans' (Only.grown (F := F1) hg fun k hk => h2 k hk) fun k _ hk => hk)
  rcases hor with e | e
  · exact Or.inl (h2 k (by rw [← e]; exact hk))
  · rw [hk] at e
    injection e with e
    exact Or.inr ⟨by omega, (World.ownsRow.lt hown k hk).2⟩
theorem In.appendH {v v' : Value} {cs : List Hd} {x : Hd} {o : Obj} (h : In G w0 (RowH v cs :: l) w) (hown : w'.ownsRow 0 36 2 v' (cs.length + 1) (cs.flatMap hC ++ [.int .i64 x.1, .int .i64 x.2])) (hg : (w.alloc o).grownBy w' v.ownBlock)
    (hor : v'.ownBlock = v.ownBlock ∨ v'.ownBlock = some (w.heap.size + 1)) : In G w0 (RowH v' (cs ++ [x]) :: l) w' := by
  have := h.append1 hown hg hor
  unfold RowH
  rw [List.length_append, List.flatMap_append]
  exact this
theorem In.rowAt {E : TypeId} {size n : Nat} {v : Value} {xs : List Value} (h : In G w0 (RowA E size v n xs :: l) w) : w.ownsRow 0 E size v n xs := h.sep.head.1
theorem In.nilRow (h : In G w0 l w) (E : TypeId) (size : Nat) : In G w0 (RowA E size (.slice none 0 0) 0 [] :: l) w :=
  h.add0 ⟨World.ownsRow_nil _ _ _ _, fun k hk => by simp [Value.ownBlock] at hk⟩

theorem swoH : SWO (ltOf cmpH) where
  irrefl x := by unfold ltOf; rw [cmpH_neg]; unfold hLt; simp
  trans x y z h1 h2 := by
    unfold ltOf at *
    rw [cmpH_neg] at *
    unfold hLt at *
    simp only [Bool.or_eq_true, Bool.and_eq_true, decide_eq_true_eq] at *
    omega
  ntrans x y z h1 h2 := by
    unfold ltOf at *
    rw [cmpH_neg] at *
    unfold hLt at *
    simp only [Bool.or_eq_false_iff, Bool.and_eq_false_iff, decide_eq_false_iff_not] at *
    omega
theorem pair_hLe {α : Type} {key : α → Hd} {ys : List α} (h : ys.Pairwise fun a b => decide (cmpH (key b) (key a) < 0) = false) : ys.Pairwise fun a b => kLe key a b = true :=
  h.imp fun {a b} h => by unfold kLe hLe; rw [← cmpH_neg, h]; rfl

theorem sortH_in {v : Value} {xs : List Hd} (h : In G w0 (RowH v xs :: l) w) (hl : xs.length ≤ 1099511627776) :
    Calls Try.prog 54 #[v, .func (.func 55) #[] #[]] w fun e w' => e = .returned (.tuple #[]) ∧ In G w0 (RowH v (xs.mergeSort hLe) :: l) w' := by
  have hcon := sort_in (ρ := sortHandle_ren) (enc := hC) sortHandle_lay Try.isAgg36 Try.sizeOf36 hC_len (fun x u hu => by simp [hC] at hu; rcases hu with rfl | rfl <;> rfl) cmpH swoH 55
    (enters_of Try.func55 (by kernel_rfl) rfl) (fun blk off size w m os dk _ x y => compare_any x y (sortWorldK hC 2 w blk off m dk os)) 36 h (by omega)
  change Calls Try.prog 54 _ _ _ at hcon
  refine hcon.mono ?_
  rintro e w' ⟨rfl, ys, hp, hs, hI⟩
  have e1 : ys = xs.mergeSort hLe := sort_of_sorted hp (pair_hLe (key := id) hs)
  subst e1
  exact ⟨rfl, hI⟩

def bC (b : Hd × Hd) : List Value := [.int .i64 b.1.1, .int .i64 b.1.2, .int .i64 b.2.1, .int .i64 b.2.2]
def bL (b : Hd × Hd) : List Int := [b.1.1, b.1.2, b.2.1, b.2.2]
theorem bC_len (b : Hd × Hd) : (bC b).length = 4 := rfl
theorem bL_len (b : Hd × Hd) : (bL b).length = 4 := rfl
abbrev RowB (v : Value) (bs : List (Hd × Hd)) : Assn := RowA 59 4 v bs.length (bs.flatMap bC)
def cmpB (a b : Hd × Hd) : Int := cmpH a.1 b.1
theorem swoB : SWO (ltOf cmpB) where
  irrefl x := swoH.irrefl x.1
  trans x y z := swoH.trans x.1 y.1 z.1
  ntrans x y z := swoH.ntrans x.1 y.1 z.1
set_option maxRecDepth 100000 in
theorem bonds1_any (x y : Hd × Hd) (w : World) : Calls Try.prog 57 #[.agg (ints (bL x)), .agg (ints (bL y))] w fun e w' => e = .returned (.int .i64 (cmpB x y)) ∧ ∃ q os, w' = Sort.grow (w.drewN q) os := by
  obtain ⟨⟨x1, x2⟩, ⟨x3, x4⟩⟩ := x
  obtain ⟨⟨y1, y2⟩, ⟨y3, y4⟩⟩ := y
  go_enter Try.func57, Try.ntmps57
  go_upto_region 1 with (fail)
  have k1 : row? ((w.alloc (.cells (ints [x1, x2, x3, x4]) 59)).alloc (.cells (ints [y1, y2, y3, y4]) 59)) w.heap.size 0 2 = some (ints [x1, x2]) := ((Blk.new w 59 (ints [x1, x2, x3, x4])).alloc _).row_ints 0 2 (by simp)
  have k2 : row? ((w.alloc (.cells (ints [x1, x2, x3, x4]) 59)).alloc (.cells (ints [y1, y2, y3, y4]) 59)) (w.heap.size + 1) 0 2 = some (ints [y1, y2]) := by
    have := Blk.new (w.alloc (.cells (ints [x1, x2, x3, x4]) 59)) 59 (ints [y1, y2, y3, y4])
    rw [World.size_alloc] at this
    exact this.row_ints 0 2 (by simp)
  have HW : Hid (((w.alloc (.cells (ints [x1, x2, x3, x4]) 59)).alloc (.cells (ints [y1, y2, y3, y4]) 59)) = Sort.grow w #[.cells (ints [x1, x2, x3, x4]) 59, .cells (ints [y1, y2, y3, y4]) 59]) := by
    unfold Hid; rw [Sort.alloc_eq_grow, Sort.alloc_eq_grow, Sort.grow_grow]; rfl
  change Code.wp _ _ _ _ ((w.alloc (.cells (ints [x1, x2, x3, x4]) 59)).alloc (.cells (ints [y1, y2, y3, y4]) 59))
  generalize ((w.alloc (.cells (ints [x1, x2, x3, x4]) 59)).alloc (.cells (ints [y1, y2, y3, y4]) 59)) = w2 at *
  go_wp2_with fail
  refine (compare_any (x1, x2) (y1, y2) w2).mono ?_
  rintro e w3 ⟨rfl, q, os, rfl⟩
  go_wp2_with fail
  go_ret
  refine ⟨rfl, q, #[.cells (ints [x1, x2, x3, x4]) 59, .cells (ints [y1, y2, y3, y4]) 59] ++ os, ?_⟩
  rw [HW.out]
  exact Sort.grow_grow (w.drewN q) _ os
theorem sortB_in {v : Value} {xs : List (Hd × Hd)} (hn : ∀ a ∈ xs, ∀ b ∈ xs, a.1 = b.1 → a = b) (h : In G w0 (RowB v xs :: l) w) (hl : xs.length ≤ 1099511627776) :
    Calls Try.prog 56 #[v, .func (.func 57) #[] #[]] w fun e w' => e = .returned (.tuple #[]) ∧ In G w0 (RowB v (xs.mergeSort (kLe (·.1))) :: l) w' := by
  have h1 : ∀ x, ∀ u ∈ bC x, u.oneCell' = true := fun x u hu => by simp [bC] at hu; rcases hu with rfl | rfl | rfl | rfl <;> rfl
  have h2 : ∀ blk off size w, CmpLays Try.prog 57 #[] bC 4 cmpB blk off size w := fun blk off size w m os dk _ x y => bonds1_any x y (sortWorldK bC 4 w blk off m dk os)
  have h3 : ∀ args w, (callFunc 57 args).run Try.prog w = .ok (.enter 57 args) w := enters_of Try.func57 (by kernel_rfl) rfl
  have hcon := sort_in (ρ := sortBond_ren) (enc := bC) sortBond_lay Try.isAgg59 Try.sizeOf59 bC_len h1 cmpB swoB 57 h3 h2 59 h (by omega)
  change Calls Try.prog 56 _ _ _ at hcon
  refine hcon.mono ?_
  rintro e w' ⟨rfl, ys, hp, hs, hI⟩
  have hs2 : ys.Pairwise fun a b => kLe (fun b : Hd × Hd => b.1) a b = true := hs.imp fun {a b} h => by unfold kLe hLe; rw [← cmpH_neg]; unfold cmpB at h; rw [h]; rfl
  have e1 : ys = xs.mergeSort (kLe (fun b : Hd × Hd => b.1)) := ksort_of_sorted _ hn hp hs2
  rw [e1] at hI
  exact ⟨rfl, hI⟩
end

end Go.Proofs.Ytpgdobomcdpdbaa
