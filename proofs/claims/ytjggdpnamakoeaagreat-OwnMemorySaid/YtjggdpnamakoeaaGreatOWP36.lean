/-
  Several texts in one (merged by a program of mine): DiffMaps.
-/
import Derived.Test.YtjggdpnamakoeaaGreatOWP35
import Derived.Shelf.SlMaps.Clone
set_option linter.unusedVariables false
set_option linter.unusedSimpArgs false
set_option linter.unusedSectionVars false
/-
  The contracts of maps.Clone and maps.Copy at maps of beasts.
-/
namespace Go.Proofs.YtjggdpnamakoeaaGreat
open Go.RowKit

theorem MapAt.cloned {κ ν : Type} {ek : κ → Value} {ev : ν → Value} {good : κ → Prop} {w : World} {b : Nat} {m : List (κ × ν)} (h : MapAt ek ev good w b m) {es : Array MapEntry} {clock : Nat} (hb : w.heap[b]? = some (.map es clock)) :
    MapAt ek ev good (w.alloc (.map es clock)) w.heap.size m := by
  obtain ⟨es', clock', hb', hr⟩ := h
  rw [hb] at hb'
  injection hb' with hb'
  injection hb' with h1 h2
  subst h1; subst h2
  exact ⟨es, clock, (MapKept.heap_alloc w _).1, hr⟩

set_option maxHeartbeats 2000000 in
set_option maxRecDepth 100000 in
theorem mclone_any {w : World} {b : Nat} {m : List RowD} (h : MapAt hdV bV (fun _ => True) w b m) :
    Calls Tryz.prog 72 #[.map (some b)] w fun e w' => e = .returned (.map (some w.heap.size)) ∧ MapAt hdV bV (fun _ => True) w' w.heap.size m ∧ Below w.heap.size w w' := by
  have HM := Lib.hid h
  obtain ⟨es, clock, hb, _⟩ := h
  have HM2 : Hid (MapAt hdV bV (fun _ => True) (w.alloc (.map es clock)) w.heap.size m) := MapAt.cloned HM.out hb
  have hq := fun w => run_eql_map_nil_sl (P := Tryz.prog) w 147 _ _ (some b) Tryz.underlying147
  go_enter Tryz.func72, Tryz.ntmps72
  go_wp2_with fail
  rw [run_callFunc_extern Tryz.func103 (by kernel_rfl) (by kernel_rfl) (by kernel_rfl) (e := Extern.MapsClone.clone) (by kernel_rfl), run_maps_clone_sl w 147 hb]
  simp only [Result.andThen]
  rw [Oper.upon_value]
  go_wp2_with fail
  rw [run_typeAssert_map_sl _ 147 20 _ _ _ Tryz.underlying147]
  simp only [Result.andThen]
  rw [Oper.upon_value]
  go_wp2_with fail
  go_ret
  exact ⟨rfl, HM2.out, (Below.refl _ _).alloc (Nat.le_refl _) _⟩

theorem keys_put {m m0 y left : List RowD} {x : Hd} {v : List Int} (hx : (x, v) ∈ left) (hn : (mkeys left).Nodup) (hs : ∀ p ∈ left, p ∈ y) (h : ∀ k, k ∈ mkeys m ↔ k ∈ mkeys m0 ∨ k ∈ mkeys y ∧ k ∉ mkeys left) :
    ∀ k, k ∈ mkeys (mput m x v) ↔ k ∈ mkeys m0 ∨ k ∈ mkeys y ∧ k ∉ mkeys (mdel left x) := by
  intro k
  have h1 : k ∈ mkeys (mput m x v) ↔ k ∈ mkeys m ∨ k = x := by
    rw [mput_keys_of]
    split
    · rename_i hi
      constructor
      · exact Or.inl
      · rintro (h | rfl); exact h; exact hi
    · simp
  have h2 : k ∈ mkeys (mdel left x) ↔ k ∈ mkeys left ∧ k ≠ x := by
    rw [mem_keys, mem_keys, mget_mdel]
    by_cases e : k = x
    · simp [e]
    · simp [e]
  have hxy : x ∈ mkeys y := List.mem_map.2 ⟨_, hs _ hx, rfl⟩
  have hxl : x ∈ mkeys left := List.mem_map.2 ⟨_, hx, rfl⟩
  rw [h1, h2, h]
  constructor
  · rintro ((h | ⟨h3, h4⟩) | rfl)
    · exact Or.inl h
    · exact Or.inr ⟨h3, fun h => h4 h.1⟩
    · exact Or.inr ⟨hxy, fun h => h.2 rfl⟩
  · rintro (h | ⟨h3, h4⟩)
    · exact Or.inl (Or.inl h)
    · by_cases e : k = x
      · exact Or.inr e
      · exact Or.inl (Or.inr ⟨h3, fun h => h4 ⟨h, e⟩⟩)
set_option maxHeartbeats 1000000 in
set_option maxRecDepth 100000 in
theorem mcopy_in {G : Nat → Prop} {w0 w : World} {l : List Assn} {d s : Nat} {m y : List RowD} (hy : (mkeys y).Nodup) (hv : ∀ r ∈ y, RowOk r) (h : In G w0 (DMap s y :: DMap d m :: l) w) :
    Calls Tryz.prog 73 #[.map (some d), .map (some s)] w fun e w' => e = .returned (.tuple #[]) ∧ ∃ m', (∀ k, k ∈ mkeys m' ↔ k ∈ mkeys m ∨ k ∈ mkeys y) ∧ In G w0 (DMap s y :: DMap d m' :: l) w' := by
  have HI0 := Lib.hid h
  have HY := Lib.hid hy
  have HV := Lib.hid hv
  clear h hy hv
  go_enter Tryz.func73, Tryz.ntmps73
  go_wp2_with (at_range; go_loud (refine wpList_rangeOver rfl _ 147 39 rfl Tryz.underlying147 s _ rfl (In.mapAt HI0.out) ?_))
  intro w2 hr2 hb2 hs2
  have HI2 := Lib.hid (In.ranged HI0.out hr2 hb2 hs2)
  generalize w.heap.size = ri at *
  clear hr2 hb2 hs2 HI0
  go_wp2_with fail
  go_loopw [8] (fun _ w' => ∃ (left : List RowD) (m1 : List RowD), (mkeys left).Nodup ∧ (∀ p ∈ left, p ∈ y) ∧ (∀ k, k ∈ mkeys m1 ↔ k ∈ mkeys m ∨ k ∈ mkeys y ∧ k ∉ mkeys left) ∧ In G w0 (RangeA hdV bV (fun _ => True) s ri y left :: DMap d m1 :: l) w') (fun _ w' => w'.rangeLeft s ri)
  case atStart => exact ⟨y, m, HY.out, fun _ h => h, fun k => ⟨Or.inl, fun h => by rcases h with h | h; exact h; exact absurd h.1 h.2⟩, HI2.out⟩
  case round =>
    clear HI2
    obtain ⟨left, m1, hnd, hsub, hks, hI⟩ := hrel
    have HND := Lib.hid hnd
    have HSUB := Lib.hid hsub
    have HKS := Lib.hid hks
    have HI := Lib.hid hI
    clear hnd hsub hks hI
    go_wp2_with (at_next; go_loud (refine wpList_nextOf keyHd rfl _ rfl s ri _ left rfl (In.rangeAt HI.out) ?_ ?_))
    · intro hl0
      subst hl0
      go_wp2_with fail
      go_end0
      exact ⟨rfl, m1, fun k => by have := HKS.out k; simpa [mkeys] using this, HI.out.unranged⟩
    · intro x1 x2 bb w7 hx hr7 ho7 hs7 hlt7 hen
      have HI7 := Lib.hid (In.stepped HI.out hr7 ho7)
      have HLEN := Lib.hid hlt7
      have HX := Lib.hid hx
      have hb9 : bb.length = 9 := HV.out _ (HSUB.out _ hx)
      obtain ⟨f1, f2⟩ := two_fits w7 41 39 [0, 0] zeroB [x1, x2]
      clear hr7 ho7 hs7 hlt7 hx
      go_upto_region 3 with (fail)
      refine wp_abs (In G w0 (Box (w7.heap.size + 1) 39 (ints bb) :: Box w7.heap.size 41 (ints [x1, x2]) :: RangeA hdV bV (fun _ => True) s ri y (mdel left (x1, x2)) :: DMap d m1 :: l)) (HI7.out.struct2 41 39 [0, 0] zeroB [x1, x2] bb rfl hb9) ?_
      clear f1 f2 hen HI7
      generalize w7.heap.size + 1 = vb
      generalize w7.heap.size = xb
      intro w8 hI8
      have q1 : row? w8 vb 0 9 = some (ints bb) := hI8.blk.row_all hb9
      have q2 : row? w8 xb 0 2 = some (ints [x1, x2]) := hI8.swap.blk.row_all rfl
      have HI8 := Lib.hid hI8.drop.drop.swap
      clear hI8
      go_wp2_with (at_mapUpdate; go_loud (refine wpList_store keyHd rfl _ _ _ 147 39 rfl Tryz.underlying147 d _ rfl (In.mapAt HI8.out) (x1, x2) rfl trivial bb rfl ?_))
      intro w9 h1 h2 h3
      have HI9 := Lib.hid (In.mapped HI8.out h1 h2).swap
      clear h1 h2 h3 q1 q2
      go_wp2_with fail
      go_roundw
      case rel => exact ⟨mdel left (x1, x2), mput m1 (x1, x2) bb, mdel_nodup HND.out _, fun p hp => HSUB.out _ (mem_mdel.1 hp).1, keys_put HX.out HND.out HSUB.out HKS.out, HI9.out⟩
      case measure => rw [(In.rangeAt HI9.out).count, (In.rangeAt HI.out).count]; exact HLEN.out

end Go.Proofs.YtjggdpnamakoeaaGreat
