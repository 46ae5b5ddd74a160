/-
  Several texts in one (merged by a program of mine): SlotCalls2, SlotCalls3, SlotCalls4, SlotCalls5, IxFunc, SlotFind, SlotLoad, SlotMath.
-/
import Derived.Test.YtpgcghnlepnoiaaGreatDoorTP19
import Derived.StillTailTactics
import Derived.BigQuiet
import Derived.Deep.DeepCutAuto
set_option linter.unusedVariables false
set_option linter.unusedSimpArgs false
set_option linter.unusedSectionVars false
/-
  Contracts of the slots' methods.
-/
namespace Go.Proofs.YtpgcghnlepnoiaaGreatDoor
open Go.RowKit

def liveB (ls : List (Int × Bool)) (a b : Int) : Bool := decide (0 ≤ a) && decide (a < ls.length) && (decide ((ls.getD a.toNat (0, false)).1 = b) && (ls.getD a.toNat (0, false)).2)

theorem live_any (p : Nat) (ls : List (Int × Bool)) (F : Nat → Prop) (a b : Int) (w : World) (h : SlotsAt w p ls F) :
    Calls Tryz.prog 73 #[.pointer (some ⟨p, 0, none⟩), .agg #[.int .i64 a, .int .i64 b]] w fun e w' => e = .returned (.bool (liveB ls a b)) ∧ Below w.heap.size w w' := by
  obtain ⟨A, c, f1, f2, f3, f4, f5, f6, f7⟩ := h.facts
  have hp := h.lt
  have hd : Hid (liveB ls a b = (decide (0 ≤ a) && decide (a < ls.length) && (decide ((ls.getD a.toNat (0, false)).1 = b) && (ls.getD a.toNat (0, false)).2))) := rfl
  have F1 := Lib.hid f1
  have F7 := Lib.hid f7
  clear f1 f2 f5 f6 f7 h
  go_enter Tryz.func73, Tryz.ntmps73
  go_upto_region 1 with (fail)
  have hB0 : Blk (w.alloc (.cells #[.int .i64 a, .int .i64 b] 46)) w.heap.size 46 #[.int .i64 a, .int .i64 b] := Blk.new _ _ _
  refine wp_abs (fun w' => Blk w' w.heap.size 46 #[.int .i64 a, .int .i64 b] ∧ Below w.heap.size w w') ⟨hB0, (Below.refl _ _).alloc (Nat.le_refl _) _⟩ ?_
  rintro w1 ⟨hB1, hb1⟩
  have HB1 := Lib.hid hb1
  have c1 : ∀ n : After w1, n.w.cell? ⟨w.heap.size, 0, none⟩ = some (.int .i64 a) := fun n => n.cell (hB1.cell 0)
  have c2 : ∀ n : After w1, n.w.cell? ⟨w.heap.size, 1, none⟩ = some (.int .i64 b) := fun n => n.cell (hB1.cell 1)
  have c3 : ∀ n : After w1, n.w.cell? ⟨p, 0, none⟩ = some (.slice A ls.length c) := fun n => n.cell ((hb1.cell (p := ⟨p, 0, none⟩) hp).trans F1.out)
  clear hB0 hB1 hb1
  by_cases ha0 : 0 ≤ a
  rotate_left
  · have h1 : decide (0 ≤ a) = false := by simpa using ha0
    have HD : Hid (liveB ls a b = false) := by unfold Hid; rw [hd.out, h1]; rfl
    refine wp_region_after (by kernel_rfl) (by kernel_rfl) ?_
    repeat (go_big_quiet_step (fail))
    refine wpQuiet_nil ?_
    rintro _ ⟨n, rfl⟩
    go_wp2_with fail
    go_ret
    exact ⟨ret_bool HD.out.symm, HB1.out.trans (n.below.mono HB1.out.size)⟩
  by_cases ha1 : a < ls.length
  rotate_left
  · have h1 : decide (0 ≤ a) = true := by simpa using ha0
    have h2 : decide (a < ls.length) = false := by simpa using ha1
    have HD : Hid (liveB ls a b = false) := by unfold Hid; rw [hd.out, h1, h2]; rfl
    refine wp_region_after (by kernel_rfl) (by kernel_rfl) ?_
    repeat (go_big_quiet_step (fail))
    refine wpQuiet_nil ?_
    rintro _ ⟨n, rfl⟩
    go_wp2_with fail
    go_ret
    exact ⟨ret_bool HD.out.symm, HB1.out.trans (n.below.mono HB1.out.size)⟩
  obtain ⟨k, rfl⟩ : ∃ k : Nat, a = k := ⟨a.toNat, by omega⟩
  obtain ⟨g, rfl, hg1, hg2, hg3, hg4, hg5, hg6, hg7, hg8, hg9⟩ := F7.out k (by omega)
  have c4 : ∀ n : After w1, row? n.w g (k * 2) 2 = some #[.int .i64 (ls.getD k (0, false)).1, .bool (ls.getD k (0, false)).2] := fun n => (row_below n.below (by have := HB1.out.size; omega) _ _).trans ((row_below HB1.out hg3 _ _).trans hg7)
  rw [Int.toNat_natCast] at hd
  clear hg4 hg5 hg6 hg7 hg8 hg9
  have h2 : decide ((k : Int) < ls.length) = true := by simpa using ha1
  have heq : ∀ W x y, (binOp .eql 147 (.agg #[.int .i64 x, .bool y]) (.agg #[.int .i64 b, .bool true])).run Tryz.prog W = .ok (.bool (decide (x = b) && y)) W := fun W x y => by rw [eql_slot]; simp
  have HD : Hid (liveB ls k b = (decide ((ls.getD k (0, false)).1 = b) && (ls.getD k (0, false)).2)) := by
    unfold Hid; rw [hd.out, h2, decide_eq_true ha0]; rfl
  generalize ls.getD k (0, false) = x at *
  obtain ⟨x, y⟩ := x
  simp only at HD c4
  refine wp_region_after (by kernel_rfl) (by kernel_rfl) ?_
  repeat (go_big_quiet_step (fail))
  refine wpQuiet_nil ?_
  rintro _ ⟨n, rfl⟩
  go_wp2_with fail
  go_ret
  exact ⟨ret_bool HD.out.symm, HB1.out.trans (n.below.mono HB1.out.size)⟩

end Go.Proofs.YtpgcghnlepnoiaaGreatDoor

/-
  Contracts of the slots' methods that write, and of those that list.
-/
namespace Go.Proofs.YtpgcghnlepnoiaaGreatDoor
open Go.RowKit

def freeR (ls : List (Int × Bool)) (a b : Int) : List (Int × Bool) × Int := if liveB ls a b then (ls.set a.toNat (b + 1, false), 0) else (ls, 7)
def GensOk (ls : List (Int × Bool)) : Prop := ∀ x ∈ ls, 0 ≤ x.1 ∧ x.1 ≤ 1000000

theorem live_true {ls : List (Int × Bool)} {a b : Int} (h : liveB ls a b = true) : ∃ k : Nat, a = k ∧ k < ls.length ∧ ls.getD k (0, false) = (b, true) := by
  simp only [liveB, Bool.and_eq_true, decide_eq_true_eq] at h
  obtain ⟨⟨h1, h2⟩, h3, h4⟩ := h
  refine ⟨a.toNat, by omega, by omega, Prod.ext h3 h4⟩

set_option maxRecDepth 100000 in
theorem free_any (p : Nat) (ls : List (Int × Bool)) (F : Nat → Prop) (a b : Int) (w : World) (h : SlotsAt w p ls F) (hg : GensOk ls) :
    Calls Tryz.prog 128 #[.pointer (some ⟨p, 0, none⟩), .agg #[.int .i64 a, .int .i64 b]] w fun e w' => e = .returned (.int .i64 (freeR ls a b).2) ∧ SlotsAt w' p (freeR ls a b).1 F ∧ Only F w w' := by
  have H := Lib.hid h
  have hd : Hid (freeR ls a b = if liveB ls a b then (ls.set a.toNat (b + 1, false), 0) else (ls, 7)) := rfl
  clear h
  go_enter Tryz.func128, Tryz.ntmps128
  go_upto_region 1 with (fail)
  have hB0 : Blk (w.alloc (.cells #[.int .i64 a, .int .i64 b] 46)) w.heap.size 46 (ints [a, b]) := Blk.new _ _ _
  refine wp_abs (fun w' => Blk w' w.heap.size 46 (ints [a, b]) ∧ Below w.heap.size w w') ⟨hB0, (Below.refl _ _).alloc (Nat.le_refl _) _⟩ ?_
  rintro w1 ⟨hB1, hb1⟩
  have HS1 : Hid (SlotsAt w1 p ls (fun k => F k ∧ k < w.heap.size)) := (H.out.mono (G := fun k => F k ∧ k < w.heap.size) fun k hk hf => ⟨hf, hk⟩).only (G := fun k => w.heap.size ≤ k) (Only.of_below hb1) (fun k hk => by omega)
  have HB1 := Lib.hid hB1
  have HO1 : Hid (Below w.heap.size w w1) := hb1
  have frow : row? w1 w.heap.size 0 2 = some (ints [a, b]) := hB1.row_all rfl
  clear hB0 hB1 hb1
  go_wp2_with fail
  refine (live_any p ls _ a b _ HS1.out).mono ?_
  rintro e w2 ⟨rfl, hb2⟩
  have HS2 : Hid (SlotsAt w2 p ls (fun k => F k ∧ k < w.heap.size)) := HS1.out.only (G := fun k => w1.heap.size ≤ k) (Only.of_below hb2) (fun k hk => by have := HO1.out.size; omega)
  have HB2 := Lib.hid (HB1.out.after hb2)
  have HO2 : Hid (Below w.heap.size w w2) := HO1.out.trans (hb2.mono HO1.out.size)
  clear hb2 HS1 HB1 HO1 frow
  cases hL : liveB ls a b
  · have HR : Hid (freeR ls a b = (ls, 7)) := by unfold Hid; rw [hd.out, hL]; rfl
    clear hL
    go_wp2_with fail
    go_ret
    rw [HR.out]
    exact ⟨rfl, HS2.out.mono fun k _ h => h.1, (Only.of_below HO2.out)⟩
  · obtain ⟨k, rfl, hk, hkb⟩ := live_true hL
    have HR : Hid (freeR ls k b = (ls.set k (b + 1, false), 0)) := by unfold Hid; rw [hd.out, hL]; rfl
    have hbb := hg (b, true) (by rw [← hkb]; simp [List.getD, List.getElem?_eq_getElem hk])
    simp only at hbb
    have hsum : IntKind.i64.wrap (b + 1) = b + 1 := IntWalk.i64_in _ (by omega)
    have hki : (k : Int) < ls.length := by omega
    obtain ⟨A, c, f1, f2, f3, f4, f5, f6, f7⟩ := HS2.out.facts
    obtain ⟨g, rfl, hg1, hg2, hg3, hg4, hg5, hg6, hg7, hg8, hg9⟩ := f7 k hk
    have c1 : w2.cell? ⟨w.heap.size, 0, none⟩ = some (.int .i64 k) := HB2.out.cell 0
    have c2 : w2.cell? ⟨w.heap.size, 1, none⟩ = some (.int .i64 b) := HB2.out.cell 1
    have HP := Lib.hid (HS2.out.put hk f1 (b + 1) false)
    clear hL f2 f3 f4 f5 f6 f7 hg4 hg5 hg7 hg8 hg9 hkb hd
    go_upto_region 3 with (fail)
    go_still_tail 11, (by kernel_rfl)
    repeat still_step
    change wpList _ _ _ _ _ w2.drew
    go_wp2_with fail
    go_ret
    rw [HR.out]
    refine ⟨rfl, ?_, ?_⟩
    · exact (HP.out.1.mono fun k _ h => h.1)
    · exact ((Only.of_below HO2.out).trans (HP.out.2.mono fun k _ h => h.1)).drew

end Go.Proofs.YtpgcghnlepnoiaaGreatDoor

/-
  Contracts of All and Gens.
-/
namespace Go.Proofs.YtpgcghnlepnoiaaGreatDoor
open Go.RowKit

/-- the handles of those of the first k slots that are live -/
def liveN (ls : List (Int × Bool)) : Nat → List (Int × Int)
  | 0 => []
  | k + 1 => liveN ls k ++ if (ls.getD k (0, false)).2 then [((k : Int), (ls.getD k (0, false)).1)] else []
def liveHs (ls : List (Int × Bool)) : List (Int × Int) := liveN ls ls.length
theorem liveN_len (ls : List (Int × Bool)) : ∀ k, (liveN ls k).length ≤ k
  | 0 => by simp [liveN]
  | k + 1 => by
    have := liveN_len ls k
    unfold liveN
    rw [List.length_append]
    split <;> simp <;> omega


end Go.Proofs.YtpgcghnlepnoiaaGreatDoor

/-
  Contracts of Gens and Take.
-/
namespace Go.Proofs.YtpgcghnlepnoiaaGreatDoor
open Go.RowKit

def gensN (ls : List (Int × Bool)) : Nat → List Int
  | 0 => []
  | k + 1 => gensN ls k ++ [(ls.getD k (0, false)).1]
theorem gensN_take (ls : List (Int × Bool)) : ∀ k, k ≤ ls.length → gensN ls k = (ls.take k).map (·.1)
  | 0, _ => by simp [gensN]
  | k + 1, h => by
    rw [gensN, gensN_take ls k (by omega), List.take_add_one, List.getElem?_eq_getElem (by omega), List.map_append]
    simp only [List.getD, List.getElem?_eq_getElem (show k < ls.length by omega), Option.toList, List.map_cons, List.map_nil, Option.getD_some]
def gensL (ls : List (Int × Bool)) : List Int := gensN ls ls.length
theorem gensL_map (ls : List (Int × Bool)) : gensL ls = ls.map (·.1) := by rw [gensL, gensN_take ls _ (Nat.le_refl _), List.take_length]
theorem gensN_len (ls : List (Int × Bool)) : ∀ k, (gensN ls k).length = k
  | 0 => rfl
  | k + 1 => by simp [gensN, gensN_len ls k]

theorem gens_any (p : Nat) (ls : List (Int × Bool)) (F : Nat → Prop) (w : World) (h : SlotsAt w p ls F) (hl : ls.length ≤ 60) :
    Calls Tryz.prog 38 #[.pointer (some ⟨p, 0, none⟩)] w (IsInts w (gensL ls)) := by
  obtain ⟨A, c, f1, f2, f3, f4, f5, f6, f7⟩ := h.facts
  have F5 := Lib.hid f5
  clear f2 f5 f6 f7 h
  go_enter Tryz.func38, Tryz.ntmps38
  go_wp2_with fail
  go_loopw [11, 3] (fun i out w' => ∃ k : Nat, k ≤ ls.length ∧ i = .int .i64 k ∧ OwnI w' w.heap.size out (gensN ls k) ∧ Below w.heap.size w w') (fun i _ _ => ls.length - (intOf i).toNat)
  case atStart => exact ⟨0, by omega, rfl, OwnI.nil _ _, Below.refl _ _⟩
  case round =>
    clear f1
    obtain ⟨k, hk, rfl, hown, hb⟩ := hrel
    have HO := Lib.hid hown
    have HB := Lib.hid hb
    clear hown hb
    by_cases hlt : k < ls.length
    · have hki : (k : Int) < ls.length := by omega
      obtain ⟨g, rfl, hrow⟩ := slots_row (own_below F5.out HB.out) hlt
      have hN : Hid (gensN ls (k + 1) = gensN ls k ++ [(ls.getD k (0, false)).1]) := rfl
      have hlen := gensN_len ls k
      generalize ls.getD k (0, false) = x at *
      obtain ⟨x, b⟩ := x
      simp only at hrow
      go_upto_region 5 with (fail)
      refine wp_abs (fun w' => Blk w' wr.heap.size 147 #[.int .i64 x, .bool b] ∧ Below wr.heap.size wr w') ?_ ?_
      · rw [put2_set]
        have h0 : Blk (wr.alloc (.cells #[.int .i64 0, .bool false] 147)) wr.heap.size 147 #[.int .i64 0, .bool false] := Blk.new _ _ _
        have h1 := (h0.set 0 (.int .i64 x)).set 1 (.bool b)
        exact ⟨h1, (((Below.refl _ _).alloc (Nat.le_refl _) _).setCell (p := ⟨wr.heap.size, 0, none⟩) (Nat.le_refl _) _).setCell (p := ⟨wr.heap.size, 0 + 1, none⟩) (Nat.le_refl _) _⟩
      rintro w2 ⟨hs2, hb2⟩
      have c1 : w2.cell? ⟨wr.heap.size, 0, none⟩ = some (.int .i64 x) := hs2.cell 0
      have hown2 : OwnI w2 w.heap.size _ _ := HO.out.kept hb2
      have HB2 := Lib.hid (HB.out.trans (hb2.mono HB.out.size))
      clear hs2 hb2 HO hrow
      go_wp2_with (at_builtin; refine wpList_append_i rfl _ _ rfl w.heap.size _ (gensN ls k) rfl hown2 x rfl ?_ ?_ ?_)
      case refine_1 => omega
      case refine_2 => exact HB2.out.size
      intro v' w3 hown3 _ hb3
      go_wp2_with fail
      go_roundw
      case rel => exact ⟨k + 1, by omega, by go_num, hN.out.symm ▸ hown3, HB2.out.trans hb3⟩
      case measure => simp [intOf]; omega
    · have : k = ls.length := by omega
      subst this
      go_wp2_with fail
      go_ret
      exact ⟨_, rfl, HO.out, HB.out⟩

def takeR (ls : List (Int × Bool)) : List (Int × Bool) × (Int × Int) × Int :=
  if ls.findIdx freeB < ls.length then (ls.set (ls.findIdx freeB) ((ls.getD (ls.findIdx freeB) (0, false)).1, true), ((ls.findIdx freeB : Nat), (ls.getD (ls.findIdx freeB) (0, false)).1), 0)
  else if ls.length = 60 then (ls, (0, 0), 2) else (ls ++ [(0, true)], ((ls.length : Nat), 0), 0)

theorem slot_parts : (Tryz.prog.info? 147).map (fun i => (i.zero, i.size, i.bytes)) = some (some (.agg #[.int .i64 0, .bool false]), 2, 16) := by kernel_rfl

theorem ret_take {a b n : Int} {x : List (Int × Bool) × (Int × Int) × Int} {ls : List (Int × Bool)} (h : x = (ls, (a, b), n)) : Ending.returned (.tuple #[.agg (ints [a, b]), .int .i64 n]) = .returned (.tuple #[.agg (ints [x.2.1.1, x.2.1.2]), .int .i64 x.2.2]) := by rw [h]

/-- the handle that is to be handed back, and the slots -/
def TakeMem (w : World) (p : Nat) (ls : List (Int × Bool)) (F : Nat → Prop) (hc : List Int) (w' : World) : Prop :=
  Blk w' w.heap.size 46 (ints hc) ∧ SlotsAt w' p ls (fun k => F k ∧ k < w.heap.size) ∧ Only F w w'
/-- .. behind the append -/
def TakeMem2 (w : World) (p : Nat) (ls : List (Int × Bool)) (F : Nat → Prop) (hc : List Int) (w' : World) : Prop :=
  Blk w' w.heap.size 46 (ints hc) ∧ SlotsAt w' p ls (fun k => (F k ∧ k < w.heap.size) ∨ w.heap.size < k) ∧ Only F w w'
theorem TakeMem.two {w w' : World} {p : Nat} {ls : List (Int × Bool)} {F : Nat → Prop} {hc : List Int} (h : TakeMem w p ls F hc w') : TakeMem2 w p ls F hc w' := ⟨h.1, h.2.1.mono fun _ _ h => Or.inl h, h.2.2⟩
theorem TakeMem.after {w w' w'' : World} {p : Nat} {ls : List (Int × Bool)} {F : Nat → Prop} {hc : List Int} (h : TakeMem w p ls F hc w') (hb : Below w'.heap.size w' w'') : TakeMem w p ls F hc w'' :=
  ⟨h.1.after hb, h.2.1.only (G := fun k => w.heap.size ≤ k) ((Only.of_below hb)) (fun k hk => by omega), h.2.2.trans (Only.of_below hb)⟩

theorem take_any (p : Nat) (ls : List (Int × Bool)) (F : Nat → Prop) (w : World) (h : SlotsAt w p ls F) (hl : ls.length ≤ 60) :
    Calls Tryz.prog 91 #[.pointer (some ⟨p, 0, none⟩)] w fun e w' => e = .returned (.tuple #[.agg (ints [(takeR ls).2.1.1, (takeR ls).2.1.2]), .int .i64 (takeR ls).2.2]) ∧ SlotsAt w' p (takeR ls).1 (Plus F w w') ∧ Only F w w' := by
  have hp := h.lt
  have H := Lib.hid h
  clear h
  go_enter Tryz.func91, Tryz.ntmps91
  go_upto_region 1 with (fail)
  refine wp_abs (TakeMem w p ls F [0, 0]) ⟨Blk.new _ _ _, (H.out.mono fun k hk hf => ⟨hf, hk⟩).only (G := fun k => k = w.heap.size) (Only.of_below ((Below.refl _ _).alloc (Nat.le_refl _) _)) (fun k hk => by omega), Only.of_below ((Below.refl _ _).alloc (Nat.le_refl _) _)⟩ ?_
  intro w1 hM
  have HM := Lib.hid hM
  clear hM
  obtain ⟨A, c, f1, f2, f3, f4, f5, f6, f7⟩ := HM.out.2.1.facts
  have hix := f5
  clear f2 f5 f6 f7
  go_wp2_with fail
  refine (indexFree_any A c ls w1 hix (by omega)).mono ?_
  rintro e w2 ⟨rfl, hb2⟩
  have HM2 := Lib.hid (HM.out.after hb2)
  clear hb2 HM f1 f3 f4 hix
  obtain ⟨A, c, f1, f2, f3, f4, f5, f6, f7⟩ := HM2.out.2.1.facts
  by_cases hix : ls.findIdx freeB < ls.length
  · have hI : freeIx ls = (ls.findIdx freeB : Nat) := by unfold freeIx; rw [if_pos hix]
    have HT : Hid (takeR ls = (ls.set (ls.findIdx freeB) ((ls.getD (ls.findIdx freeB) (0, false)).1, true), (((ls.findIdx freeB : Nat) : Int), (ls.getD (ls.findIdx freeB) (0, false)).1), 0)) := by unfold Hid takeR; rw [if_pos hix]
    rw [hI]
    clear hI
    generalize ls.findIdx freeB = k at *
    have hki : (k : Int) < ls.length := by omega
    obtain ⟨g, rfl, hg1, hg2, hg3, hg4, hg5, hg6, hg7, hg8, hg9⟩ := f7 k hix
    have hlv := HM2.out.2.1.live hix f1 true
    have h5 : Hid (TakeMem w p (ls.set k ((ls.getD k (0, false)).1, true)) F [0, 0] (w2.setCell ⟨g, k * 2 + 1, none⟩ (.bool true))) :=
      ⟨HM2.out.1.far (by omega) _ _, hlv.1, HM2.out.2.2.trans' hlv.2 fun q hq h => h.1⟩
    generalize ls.getD k (0, false) = x at *
    obtain ⟨x, b⟩ := x
    simp only at h5 HT hg8
    clear f2 f3 f4 f5 f6 f7 hg4 hg6 hg7 hlv
    have f1' : w2.cell? ⟨p, 0, none⟩ = some (.slice (some ⟨g, 0, none⟩) ls.length c) := f1
    go_upto_region 8 with (fail)
    refine wp_abs (TakeMem2 w p (ls.set k (x, true)) F [0, 0]) h5.out.two ?_
    intro w3 hM3
    have HM3 := Lib.hid hM3
    clear hM3
    obtain ⟨A3, c3, f1, f2, f3, f4, f5, f6, f7⟩ := HM3.out.2.1.facts
    obtain ⟨g3, rfl, hg1, hg2, hg3, hg4, hg5, hg6, hg7, hg8, hg9⟩ := f7 k (by simpa using hix)
    have hrow : ((ls.set k (x, true)).getD k (0, false)).1 = x := by simp [List.getD, List.getElem?_set, hix]
    rw [hrow] at hg8
    have hki3 : ((k : Nat) : Int) < ((ls.set k (x, true)).length : Nat) := by rw [List.length_set]; omega
    have ff : fits w3 w.heap.size 0 2 = true := HM3.out.1.fits 0 2 (by decide)
    clear f2 f3 f4 f5 f6 f7 hg4 hg5 hg6 hg7 hg9 hrow
    go_wp2_with fail
    refine bodyPost_row_tmp rfl w.heap.size 46 (ints [((k : Nat) : Int), x]) (.int .i64 0) _ rfl rfl (HM3.out.1.put_all _ rfl) Tryz.underlying46 rfl (by rw [ints_size]; exact handle_info) rfl ?_
    have hO : Only F w (putRow w3 w.heap.size 0 [((k : Nat) : Int), x]) := HM3.out.2.2.trans' (G := fun q => q = w.heap.size) ⟨rfl, rfl, rfl, by rw [putRow_size]; exact Nat.le_refl _, fun q _ hq => putRow_other w3 _ 0 _ q hq⟩ (fun q hq he => absurd hq (by omega))
    refine ⟨ret_take HT.out, ?_, hO⟩
    rw [HT.out]
    have hs := HM3.out.2.1.only (w' := putRow w3 w.heap.size 0 [((k : Nat) : Int), x]) (G := fun q => q = w.heap.size) ⟨rfl, rfl, rfl, by rw [putRow_size]; exact Nat.le_refl _, fun q _ hq => putRow_other w3 _ 0 _ q hq⟩ (fun q hq he => by rcases hq with ⟨_, hq⟩ | hq <;> omega)
    refine hs.mono fun q hq hf => ?_
    rcases hf with ⟨hf, _⟩ | hf
    · exact Or.inl hf
    · exact Or.inr ⟨by omega, hq⟩
  · have hI : freeIx ls = -1 := by unfold freeIx; rw [if_neg hix]
    rw [hI]
    clear hI
    by_cases h60 : ls.length = 60
    · have HT : Hid (takeR ls = (ls, (0, 0), 2)) := by unfold Hid takeR; rw [if_neg hix, if_pos h60]
      have ff : fits w2 w.heap.size 0 2 = true := HM2.out.1.fits 0 2 (by decide)
      rw [h60] at f1
      clear f2 f3 f4 f5 f6 f7
      go_wp2_with fail
      refine bodyPost_row_tmp rfl w.heap.size 46 (ints [0, 0]) (.int .i64 2) _ rfl rfl (HM2.out.1.put_all _ rfl) Tryz.underlying46 rfl (by rw [ints_size]; exact handle_info) rfl ?_
      have hO : Only F w (putRow w2 w.heap.size 0 [0, 0]) := HM2.out.2.2.trans' (G := fun q => q = w.heap.size) ⟨rfl, rfl, rfl, by rw [putRow_size]; exact Nat.le_refl _, fun q _ hq => putRow_other w2 _ 0 _ q hq⟩ (fun q hq he => absurd hq (by omega))
      refine ⟨ret_take HT.out, ?_, hO⟩
      rw [HT.out]
      have hs := HM2.out.2.1.only (w' := putRow w2 w.heap.size 0 [0, 0]) (G := fun q => q = w.heap.size) ⟨rfl, rfl, rfl, by rw [putRow_size]; exact Nat.le_refl _, fun q _ hq => putRow_other w2 _ 0 _ q hq⟩ (fun q hq he => by omega)
      exact hs.mono fun q hq hf => Or.inl hf.1
    · have HT : Hid (takeR ls = (ls ++ [(0, true)], (((ls.length : Nat) : Int), 0), 0)) := by unfold Hid takeR; rw [if_neg hix, if_neg h60]
      have h60' : ((ls.length : Int) == 60) = false := by simp; omega
      obtain ⟨v, hB, hown, hne, hF, hFk⟩ := HM2.out.2.1
      have hv : v = .slice A ls.length c := by have := hB.cell 0; rw [f1] at this; simpa using this.symm
      subst hv
      have HB := Lib.hid hB
      have HN := Lib.hid hne
      have hpF : Hid (F p) := hF.1
      have HFk := Lib.hid hFk
      have h1 : Hid (Blk w2 w.heap.size 46 (ints [0, 0])) := HM2.out.1
      have h2 : Hid (Only F w w2) := HM2.out.2.2
      have hown' : Hid (w2.ownsRow 0 147 2 (.slice A ls.length c) ls.length (ls.flatMap slotC)) := hown
      obtain ⟨i0, hi0, hz0, hz1, hz2⟩ := info_parts slot_parts
      clear f2 f3 f4 f5 f6 f7 hB hown hne hF hFk HM2
      go_wp2_with (at_builtin; refine wpList_append1_at rfl _ _ _ rfl 0 147 i0 _ 2 16 Tryz.underlying143 hi0 hz0 hz1 hz2 rfl (by decide) (.slice A ls.length c) ls.length (ls.flatMap slotC) rfl hown'.out [.int .i64 0, .bool false] rfl rfl (by simp [Value.oneCell']) (by unfold maxLen; omega) (by omega) (Nat.zero_le _) ?_)
      intro v' w3 hown3 hg3 hat
      obtain ⟨A', c', rfl, _, _, _⟩ := own_form hown3
      have hO3 : Only (fun k => (Value.slice A ls.length c).ownBlock = some k) w2 w3 := (Only.refl.alloc _).trans (Only.grown hg3 fun k hk => hk)
      have hB3 := hO3.blk HB.out (fun e => HN.out e)
      have hH3 := hO3.blk h1.out (fun e => by have := (HFk.out _ e).2; omega)
      have hN3 : (Value.slice A' (ls.length + 1) c').ownBlock ≠ some p := by
        rcases hat with e | e
        · rw [e]; exact HN.out
        · rw [e]; intro h; injection h with h; have := h1.out.lt; omega
      have c1 : w3.cell? ⟨p, 0, none⟩ = some (.slice A ls.length c) := hB3.cell 0
      have c2 : w3.frozen? ⟨p, 0, none⟩ = false := hB3.frozen 0
      have hM4 : Hid (TakeMem2 w p (ls ++ [(0, false)]) F [0, 0] (w3.setCell ⟨p, 0, none⟩ (.slice A' (ls.length + 1) c'))) := by
        refine ⟨hH3.far (by omega) _ _, ⟨_, hB3.set 0 _, ?_, hN3, Or.inl ⟨hpF.out, hp⟩, fun k hk => ?_⟩, ?_⟩
        · rw [List.length_append, List.flatMap_append]
          exact ownsRow_setCell_other hown3 hN3 _
        · rcases hat with e | e
          · rw [e] at hk; exact Or.inl (HFk.out k hk)
          · rw [e] at hk; injection hk with hk; have := h1.out.lt; exact Or.inr (by omega)
        · exact (h2.out.trans' hO3 fun k hk e => (HFk.out k e).1).setCell (Or.inl hpF.out) _ _
      clear hown3 hg3 hat hO3 hB3 hH3 hN3 h1 h2 HFk hown'
      go_upto_region 7 with (fail)
      refine wp_abs (TakeMem2 w p (ls ++ [(0, false)]) F [0, 0]) hM4.out ?_
      clear hM4 c1 c2
      intro w5 hM5
      obtain ⟨A5, c5, f1, f2, f3, f4, f5, f6, f7⟩ := hM5.2.1.facts
      obtain ⟨g5, rfl, hg1, hg2, hg3, hg4, hg5, hg6, hg7, hg8, hg9⟩ := f7 ls.length (by simp)
      have hlv := hM5.2.1.live (k := ls.length) (by simp) f1 true
      have hki : ((ls.length : Nat) : Int) < ((ls ++ [((0 : Int), false)]).length : Nat) := by rw [List.length_append]; simp; omega
      have h5 : Hid (TakeMem2 w p (ls ++ [(0, true)]) F [0, 0] (w5.setCell ⟨g5, ls.length * 2 + 1, none⟩ (.bool true))) := by
        have e : (ls ++ [((0 : Int), false)]).set ls.length (((ls ++ [((0 : Int), false)]).getD ls.length (0, false)).1, true) = ls ++ [(0, true)] := by
          simp [List.getD, List.set_append_right]
        have h := hlv.1
        rw [e] at h
        refine ⟨hM5.1.far (by rcases hg2 with hg2 | hg2 <;> omega) _ _, h, hM5.2.2.trans' hlv.2 fun q hq h => ?_⟩
        rcases h with h | h
        · exact h.1
        · exact absurd hq (by omega)
      clear f2 f3 f4 f5 f6 f7 hg4 hg6 hg7 hg8 hlv hM5
      go_upto_region 8 with (fail)
      refine wp_abs (TakeMem2 w p (ls ++ [(0, true)]) F [0, 0]) h5.out ?_
      intro w6 hM6
      have HM6 := Lib.hid hM6
      clear hM6
      obtain ⟨A3, c3, f1, f2, f3, f4, f5, f6, f7⟩ := HM6.out.2.1.facts
      obtain ⟨g3, rfl, hg1, hg2, hg3, hg4, hg5, hg6, hg7, hg8, hg9⟩ := f7 ls.length (by simp)
      have hrow : ((ls ++ [(0, true)]).getD ls.length (0, false)).1 = 0 := by simp [List.getD]
      rw [hrow] at hg8
      have hki3 : ((ls.length : Nat) : Int) < ((ls ++ [(0, true)]).length : Nat) := by rw [List.length_append]; simp; omega
      have ff : fits w6 w.heap.size 0 2 = true := HM6.out.1.fits 0 2 (by decide)
      clear f2 f3 f4 f5 f6 f7 hg4 hg5 hg6 hg7 hg9 hrow
      go_wp2_with fail
      refine bodyPost_row_tmp rfl w.heap.size 46 (ints [((ls.length : Nat) : Int), 0]) (.int .i64 0) _ rfl rfl (HM6.out.1.put_all _ rfl) Tryz.underlying46 rfl (by rw [ints_size]; exact handle_info) rfl ?_
      have hO : Only F w (putRow w6 w.heap.size 0 [((ls.length : Nat) : Int), 0]) := HM6.out.2.2.trans' (G := fun q => q = w.heap.size) ⟨rfl, rfl, rfl, by rw [putRow_size]; exact Nat.le_refl _, fun q _ hq => putRow_other w6 _ 0 _ q hq⟩ (fun q hq he => absurd hq (by omega))
      refine ⟨ret_take HT.out, ?_, hO⟩
      rw [HT.out]
      have hs := HM6.out.2.1.only (w' := putRow w6 w.heap.size 0 [((ls.length : Nat) : Int), 0]) (G := fun q => q = w.heap.size) ⟨rfl, rfl, rfl, by rw [putRow_size]; exact Nat.le_refl _, fun q _ hq => putRow_other w6 _ 0 _ q hq⟩ (fun q hq he => by rcases hq with ⟨_, hq⟩ | hq <;> omega)
      refine hs.mono fun q hq hf => ?_
      rcases hf with ⟨hf, _⟩ | hf
      · exact Or.inl hf
      · exact Or.inr ⟨by omega, hq⟩

end Go.Proofs.YtpgcghnlepnoiaaGreatDoor

/-
  slices.IndexFunc and slices.ContainsFunc at []int with the two closures of slots.Load (printed by wip/gen_ixf.py).
-/
namespace Go.Proofs.YtpgcghnlepnoiaaGreatDoor
open Go.RowKit

/-- the first place where p holds, or -1 -/
def ixOf (p : Int → Bool) (zs : List Int) : Int := if zs.findIdx p < zs.length then (zs.findIdx p : Nat) else -1
def anyOf (p : Int → Bool) (zs : List Int) : Bool := zs.any p
theorem ixOf_at {p : Int → Bool} {zs : List Int} {k : Nat} (hk : k < zs.length) (h : p zs[k] = true) (hb : ∀ j, j < k → p (zs.getD j 0) = false) : ixOf p zs = k := by
  have : zs.findIdx p = k := by
    rw [List.findIdx_eq hk]
    refine ⟨h, fun j hj => ?_⟩
    have := hb j hj
    simpa [List.getD, List.getElem?_eq_getElem (show j < zs.length by omega)] using this
  unfold ixOf; rw [this, if_pos hk]
theorem ixOf_none {p : Int → Bool} {zs : List Int} (hb : ∀ j, j < zs.length → p (zs.getD j 0) = false) : ixOf p zs = -1 := by
  unfold ixOf
  rw [if_neg]
  intro hlt
  have h1 := List.findIdx_getElem (w := hlt)
  have h2 := hb _ hlt
  simp only [List.getD, List.getElem?_eq_getElem hlt, Option.getD_some] at h2
  rw [h2] at h1; exact absurd h1 (by simp)
theorem ixOf_any (p : Int → Bool) (zs : List Int) : decide (0 ≤ ixOf p zs) = anyOf p zs := by
  unfold ixOf anyOf
  by_cases h : zs.findIdx p < zs.length
  · rw [if_pos h]
    have := List.findIdx_getElem (w := h)
    have h2 : zs.any p = true := List.any_eq_true.2 ⟨_, List.getElem_mem h, this⟩
    rw [h2]; simp
  · rw [if_neg h]
    have h2 : zs.any p = false := by
      rw [List.any_eq_false]
      intro x hx hp
      exact h (List.findIdx_lt_length_of_exists ⟨x, hx, hp⟩)
    rw [h2]; simp

def badGen (x : Int) : Bool := decide (x < 0) || decide (1000000 < x)
def badIx (n : Nat) (x : Int) : Bool := decide (x < 0) || decide ((n : Int) ≤ x)
theorem badGen_any (x : Int) (w : World) : Calls Tryz.prog 109 #[.int .i64 x] w fun e w' => e = .returned (.bool (badGen x)) ∧ w = w' := by
  by_cases h : x < 0
  · have hd : Hid (badGen x = true) := by simp [Hid, badGen, h]
    have h' : decide (x < 0) = true := by simpa using h
    go_enter Tryz.func109, Tryz.ntmps109
    go_wp2_with fail
    go_ret
    exact ⟨ret_bool hd.out.symm, rfl⟩
  · have hd : Hid (badGen x = decide (1000000 < x)) := by simp [Hid, badGen, h]
    have h' : decide (x < 0) = false := by simpa using h
    go_enter Tryz.func109, Tryz.ntmps109
    go_wp2_with fail
    go_ret
    exact ⟨ret_bool hd.out.symm, rfl⟩
theorem badIx_any (b : Nat) (A : Option Addr) (n c : Nat) (x : Int) (w : World) (hb : w.cell? ⟨b, 0, none⟩ = some (.slice A n c)) (hn : n ≤ 60) :
    Calls Tryz.prog 110 #[.int .i64 x, .pointer (some ⟨b, 0, none⟩)] w fun e w' => e = .returned (.bool (badIx n x)) ∧ w = w' := by
  by_cases h : x < 0
  · have hd : Hid (badIx n x = true) := by simp [Hid, badIx, h]
    have h' : decide (x < 0) = true := by simpa using h
    go_enter Tryz.func110, Tryz.ntmps110
    go_wp2_with fail
    go_ret
    exact ⟨ret_bool hd.out.symm, rfl⟩
  · have hd : Hid (badIx n x = decide ((n : Int) ≤ x)) := by simp [Hid, badIx, h]
    have h' : decide (x < 0) = false := by simpa using h
    go_enter Tryz.func110, Tryz.ntmps110
    go_wp2_with fail
    go_ret
    exact ⟨ret_bool hd.out.symm, rfl⟩

theorem indexFunc1_any (A : Option Addr) (c : Nat) (zs : List Int) (w : World) (h : ReadsI w w.heap.size A zs.length zs) (hn : zs.length ≤ maxLen) :
    Calls Tryz.prog 151 #[.slice A zs.length c, .func (.func 109) #[] #[]] w fun e w' => e = .returned (.int .i64 (ixOf badGen zs)) ∧ w = w' := by
  have H := Lib.hid h
  have hnm : (zs.length : Int) ≤ 9223372036854775807 := by unfold maxLen at hn; omega
  clear h
  go_enter Tryz.func151, Tryz.ntmps151
  go_wp2_with fail
  go_loopw [8] (fun i w' => ∃ k : Nat, k ≤ zs.length ∧ i = .int .i64 k ∧ (∀ j, j < k → badGen (zs.getD j 0) = false) ∧ w = w') (fun i _ => zs.length - (intOf i).toNat)
  case atStart => exact ⟨0, by omega, rfl, fun j hj => by omega, rfl⟩
  case round =>
    obtain ⟨k, hk, rfl, hbef, rfl⟩ := hrel
    have HBEF := Lib.hid hbef
    clear hbef
    by_cases hlt : k < zs.length
    · have hki : (k : Int) < zs.length := by omega
      obtain ⟨g, o, rfl, hgl, hlt', hcl⟩ := H.out.at_ hlt
      have hgd : Hid (zs.getD k 0 = zs[k]) := by simp [Hid, List.getD, List.getElem?_eq_getElem hlt]
      have hIX : Hid (badGen zs[k] = true → ixOf badGen zs = k) := fun h => ixOf_at hlt h HBEF.out
      generalize zs[k] = x at *
      go_wp2_with fail
      refine (badGen_any _ _).mono ?_
      rintro e w' ⟨rfl, rfl⟩
      cases hp : badGen x
      · have HP := Lib.hid hp
        clear hp hIX
        go_wp2_with fail
        go_roundw
        case rel =>
          refine ⟨k + 1, by omega, by go_num, fun j hj => ?_, trivial⟩
          by_cases hjk : j = k
          · rw [hjk, hgd.out]; exact HP.out
          · exact HBEF.out j (by omega)
        case measure => simp [intOf]; omega
      · have HIX : Hid (ixOf badGen zs = k) := hIX.out hp
        clear hp hIX
        go_wp2_with fail
        go_ret
        exact ⟨ret_int HIX.out.symm, rfl⟩
    · have hkn : k = zs.length := by omega
      subst hkn
      have HIX : Hid (ixOf badGen zs = -1) := ixOf_none HBEF.out
      go_wp2_with fail
      go_ret
      exact ⟨ret_int HIX.out.symm, rfl⟩
theorem containsFunc1_any (A : Option Addr) (c : Nat) (zs : List Int) (w : World) (h : ReadsI w w.heap.size A zs.length zs) (hn : zs.length ≤ maxLen) :
    Calls Tryz.prog 108 #[.slice A zs.length c, .func (.func 109) #[] #[]] w fun e w' => e = .returned (.bool (anyOf badGen zs)) ∧ w = w' := by
  have H := Lib.hid h
  have hd : Hid (decide (0 ≤ ixOf badGen zs) = anyOf badGen zs) := ixOf_any badGen zs
  clear h
  go_enter Tryz.func108, Tryz.ntmps108
  go_wp2_with fail
  refine (indexFunc1_any A c zs w H.out hn).mono ?_
  rintro e w' ⟨rfl, rfl⟩
  go_wp2_with fail
  go_ret
  exact ⟨ret_bool hd.out, rfl⟩

theorem indexFunc2_any (b m : Nat) (A2 : Option Addr) (c2 : Nat) (A : Option Addr) (c : Nat) (zs : List Int) (w : World) (hcell : w.cell? ⟨b, 0, none⟩ = some (.slice A2 m c2)) (hm : m ≤ 60) (h : ReadsI w w.heap.size A zs.length zs) (hn : zs.length ≤ maxLen) :
    Calls Tryz.prog 151 #[.slice A zs.length c, .func (.func 110) #[] #[.pointer (some ⟨b, 0, none⟩)]] w fun e w' => e = .returned (.int .i64 (ixOf (badIx m) zs)) ∧ w = w' := by
  have H := Lib.hid h
  have hnm : (zs.length : Int) ≤ 9223372036854775807 := by unfold maxLen at hn; omega
  clear h
  go_enter Tryz.func151, Tryz.ntmps151
  go_wp2_with fail
  go_loopw [8] (fun i w' => ∃ k : Nat, k ≤ zs.length ∧ i = .int .i64 k ∧ (∀ j, j < k → (badIx m) (zs.getD j 0) = false) ∧ w = w') (fun i _ => zs.length - (intOf i).toNat)
  case atStart => exact ⟨0, by omega, rfl, fun j hj => by omega, rfl⟩
  case round =>
    obtain ⟨k, hk, rfl, hbef, rfl⟩ := hrel
    have HBEF := Lib.hid hbef
    clear hbef
    by_cases hlt : k < zs.length
    · have hki : (k : Int) < zs.length := by omega
      obtain ⟨g, o, rfl, hgl, hlt', hcl⟩ := H.out.at_ hlt
      have hgd : Hid (zs.getD k 0 = zs[k]) := by simp [Hid, List.getD, List.getElem?_eq_getElem hlt]
      have hIX : Hid ((badIx m) zs[k] = true → ixOf (badIx m) zs = k) := fun h => ixOf_at hlt h HBEF.out
      generalize zs[k] = x at *
      go_wp2_with fail
      refine (badIx_any b A2 m c2 _ _ hcell hm).mono ?_
      rintro e w' ⟨rfl, rfl⟩
      cases hp : (badIx m) x
      · have HP := Lib.hid hp
        clear hp hIX
        go_wp2_with fail
        go_roundw
        case rel =>
          refine ⟨k + 1, by omega, by go_num, fun j hj => ?_, trivial⟩
          by_cases hjk : j = k
          · rw [hjk, hgd.out]; exact HP.out
          · exact HBEF.out j (by omega)
        case measure => simp [intOf]; omega
      · have HIX : Hid (ixOf (badIx m) zs = k) := hIX.out hp
        clear hp hIX
        go_wp2_with fail
        go_ret
        exact ⟨ret_int HIX.out.symm, rfl⟩
    · have hkn : k = zs.length := by omega
      subst hkn
      have HIX : Hid (ixOf (badIx m) zs = -1) := ixOf_none HBEF.out
      go_wp2_with fail
      go_ret
      exact ⟨ret_int HIX.out.symm, rfl⟩
theorem containsFunc2_any (b m : Nat) (A2 : Option Addr) (c2 : Nat) (A : Option Addr) (c : Nat) (zs : List Int) (w : World) (hcell : w.cell? ⟨b, 0, none⟩ = some (.slice A2 m c2)) (hm : m ≤ 60) (h : ReadsI w w.heap.size A zs.length zs) (hn : zs.length ≤ maxLen) :
    Calls Tryz.prog 108 #[.slice A zs.length c, .func (.func 110) #[] #[.pointer (some ⟨b, 0, none⟩)]] w fun e w' => e = .returned (.bool (anyOf (badIx m) zs)) ∧ w = w' := by
  have H := Lib.hid h
  have hd : Hid (decide (0 ≤ ixOf (badIx m) zs) = anyOf (badIx m) zs) := ixOf_any (badIx m) zs
  clear h
  go_enter Tryz.func108, Tryz.ntmps108
  go_wp2_with fail
  refine (indexFunc2_any b m A2 c2 A c zs w hcell hm H.out hn).mono ?_
  rintro e w' ⟨rfl, rfl⟩
  go_wp2_with fail
  go_ret
  exact ⟨ret_bool hd.out, rfl⟩

end Go.Proofs.YtpgcghnlepnoiaaGreatDoor

/-
  slices.Index and slices.Contains at slots.
-/
namespace Go.Proofs.YtpgcghnlepnoiaaGreatDoor
open Go.RowKit

def isSlot (a : Int) (b : Bool) (x : Int × Bool) : Bool := decide (a = x.1) && decide (b = x.2)
def slotIx (a : Int) (b : Bool) (ls : List (Int × Bool)) : Int := if ls.findIdx (isSlot a b) < ls.length then (ls.findIdx (isSlot a b) : Nat) else -1
def hasSlot (a : Int) (b : Bool) (ls : List (Int × Bool)) : Bool := ls.any (isSlot a b)
theorem slotIx_at {a : Int} {b : Bool} {ls : List (Int × Bool)} {k : Nat} (hk : k < ls.length) (h : isSlot a b (ls.getD k (0, false)) = true) (hb : ∀ j, j < k → isSlot a b (ls.getD j (0, false)) = false) : slotIx a b ls = k := by
  have : ls.findIdx (isSlot a b) = k := by
    rw [List.findIdx_eq hk]
    refine ⟨by simpa [List.getD, List.getElem?_eq_getElem hk] using h, fun j hj => ?_⟩
    have := hb j hj
    simpa [List.getD, List.getElem?_eq_getElem (show j < ls.length by omega)] using this
  unfold slotIx; rw [this, if_pos hk]
theorem slotIx_none {a : Int} {b : Bool} {ls : List (Int × Bool)} (hb : ∀ j, j < ls.length → isSlot a b (ls.getD j (0, false)) = false) : slotIx a b ls = -1 := by
  unfold slotIx
  rw [if_neg]
  intro hlt
  have h1 := List.findIdx_getElem (w := hlt)
  have h2 := hb _ hlt
  simp only [List.getD, List.getElem?_eq_getElem hlt, Option.getD_some] at h2
  rw [h2] at h1; exact absurd h1 (by simp)
theorem slotIx_any (a : Int) (b : Bool) (ls : List (Int × Bool)) : decide (0 ≤ slotIx a b ls) = hasSlot a b ls := by
  unfold slotIx hasSlot
  by_cases h : ls.findIdx (isSlot a b) < ls.length
  · rw [if_pos h]
    have := List.findIdx_getElem (w := h)
    have h2 : ls.any (isSlot a b) = true := List.any_eq_true.2 ⟨_, List.getElem_mem h, this⟩
    rw [h2]; simp
  · rw [if_neg h]
    have h2 : ls.any (isSlot a b) = false := by
      rw [List.any_eq_false]
      intro x hx hp
      exact h (List.findIdx_lt_length_of_exists ⟨x, hx, hp⟩)
    rw [h2]; simp

theorem slotIndex_any (A : Option Addr) (c : Nat) (ls : List (Int × Bool)) (a : Int) (b : Bool) (w : World) (h : w.ownsRow 0 147 2 (.slice A ls.length c) ls.length (ls.flatMap slotC)) (hn : ls.length ≤ 1000000) :
    Calls Tryz.prog 152 #[.slice A ls.length c, .agg #[.int .i64 a, .bool b]] w fun e w' => e = .returned (.int .i64 (slotIx a b ls)) ∧ Below w.heap.size w w' := by
  have H := Lib.hid h
  clear h
  go_enter Tryz.func152, Tryz.ntmps152
  go_upto_region 1 with (fail)
  refine wp_abs (fun w' => Blk w' w.heap.size 147 #[.int .i64 a, .bool b] ∧ Below w.heap.size w w') ⟨Blk.new _ _ _, (Below.refl _ _).alloc (Nat.le_refl _) _⟩ ?_
  rintro w1 ⟨hB1, hb1⟩
  have HB1 := Lib.hid hB1
  have HO1 := Lib.hid hb1
  clear hB1 hb1
  go_wp2_with fail
  go_loopw [8] (fun i w' => ∃ k : Nat, k ≤ ls.length ∧ i = .int .i64 k ∧ (∀ j, j < k → isSlot a b (ls.getD j (0, false)) = false) ∧ Below w1.heap.size w1 w') (fun i _ => ls.length - (intOf i).toNat)
  case atStart => exact ⟨0, by omega, rfl, fun j hj => by omega, Below.refl _ _⟩
  case round =>
    obtain ⟨k, hk, rfl, hbef, hb⟩ := hrel
    have HBEF := Lib.hid hbef
    have HBR : Hid (Below w.heap.size w wr) := HO1.out.trans (hb.mono HO1.out.size)
    have HB1r : Hid (Below w1.heap.size w1 wr) := hb
    have HBx := Lib.hid (HB1.out.after hb)
    clear hbef hb
    by_cases hlt : k < ls.length
    · have hki : (k : Int) < ls.length := by omega
      have hown := own_below H.out HBR.out
      obtain ⟨g, rfl, hrow⟩ := slots_row hown hlt
      have hgl := (hown.lt g rfl).2
      have hIX : Hid (isSlot a b (ls.getD k (0, false)) = true → slotIx a b ls = k) := fun h => slotIx_at hlt h HBEF.out
      have HX : Hid (isSlot a b (ls.getD k (0, false)) = isSlot a b (ls.getD k (0, false))) := rfl
      generalize hx : ls.getD k (0, false) = x at *
      obtain ⟨x, y⟩ := x
      have HXX := Lib.hid hx
      clear hx HX hown
      have c1 : ∀ n : After wr, row? n.w g (k * 2) 2 = some #[.int .i64 x, .bool y] := fun n => (row_below n.below hgl _ _).trans hrow
      have c2 : ∀ n : After wr, row? n.w w.heap.size 0 2 = some #[.int .i64 a, .bool b] := fun n => (HBx.out.after n.below).row 0 2 (Nat.le_refl 2)
      have heq : ∀ W, (binOp .eql 147 (.agg #[.int .i64 a, .bool b]) (.agg #[.int .i64 x, .bool y])).run Tryz.prog W = .ok (.bool (isSlot a b (x, y))) W := fun W => eql_slot a x b y W
      clear hrow
      cases hp : isSlot a b (x, y)
      all_goals
        have HP := Lib.hid hp
        rw [hp] at heq
        clear hp
        go_upto_region 4 with (fail)
        refine wp_region_after (by kernel_rfl) (by kernel_rfl) ?_
        repeat (go_big_quiet_step (fail))
        refine wpQuiet_nil ?_
        rintro _ ⟨n, rfl⟩
        go_wp2_with fail
      · go_roundw
        case rel =>
          refine ⟨k + 1, by omega, by go_num, fun j hj => ?_, HB1r.out.trans (n.below.mono HB1r.out.size)⟩
          by_cases hjk : j = k
          · rw [hjk, HXX.out]; exact HP.out
          · exact HBEF.out j (by omega)
        case measure => simp [intOf]; omega
      · have HIX : Hid (slotIx a b ls = k) := hIX.out HP.out
        go_ret
        exact ⟨ret_int HIX.out.symm, HBR.out.trans (n.below.mono HBR.out.size)⟩
    · have hkn : k = ls.length := by omega
      subst hkn
      have HIX : Hid (slotIx a b ls = -1) := slotIx_none HBEF.out
      go_wp2_with fail
      go_ret
      exact ⟨ret_int HIX.out.symm, HBR.out⟩

theorem hasSlot_any (A : Option Addr) (c : Nat) (ls : List (Int × Bool)) (a : Int) (b : Bool) (w : World) (h : w.ownsRow 0 147 2 (.slice A ls.length c) ls.length (ls.flatMap slotC)) (hn : ls.length ≤ 1000000) :
    Calls Tryz.prog 111 #[.slice A ls.length c, .agg #[.int .i64 a, .bool b]] w fun e w' => e = .returned (.bool (hasSlot a b ls)) ∧ Below w.heap.size w w' := by
  have H := Lib.hid h
  have hd : Hid (decide (0 ≤ slotIx a b ls) = hasSlot a b ls) := slotIx_any a b ls
  clear h
  go_enter Tryz.func111, Tryz.ntmps111
  go_upto_region 1 with (fail)
  refine wp_abs (fun w' => Blk w' w.heap.size 147 #[.int .i64 a, .bool b] ∧ Below w.heap.size w w') ⟨Blk.new _ _ _, (Below.refl _ _).alloc (Nat.le_refl _) _⟩ ?_
  rintro w1 ⟨hB1, hb1⟩
  have c1 : row? w1 w.heap.size 0 2 = some #[.int .i64 a, .bool b] := hB1.row 0 2 (Nat.le_refl 2)
  have HO1 := Lib.hid hb1
  clear hB1 hb1
  go_wp2_with fail
  refine (slotIndex_any A c ls a b w1 (own_below H.out HO1.out) hn).mono ?_
  rintro e w2 ⟨rfl, hb2⟩
  have HO2 : Hid (Below w.heap.size w w2) := HO1.out.trans (hb2.mono HO1.out.size)
  go_wp2_with fail
  go_ret
  exact ⟨ret_bool hd.out, HO2.out⟩

end Go.Proofs.YtpgcghnlepnoiaaGreatDoor

/-
  The contract of slots.Load.
-/
namespace Go.Proofs.YtpgcghnlepnoiaaGreatDoor
open Go.RowKit

def markN : List (Int × Bool) → List Int → Option (List (Int × Bool))
  | ls, [] => some ls
  | ls, k :: r => if (ls.getD k.toNat (0, false)).2 then none else markN (ls.set k.toNat ((ls.getD k.toNat (0, false)).1, true)) r
def loadR (gens live : List Int) : Option (List (Int × Bool)) × Int :=
  if 60 < gens.length then (none, 2) else if anyOf badGen gens then (none, 1) else if anyOf (badIx gens.length) live then (none, 5)
  else match markN (gens.map fun g => (g, false)) live with
    | none => (none, 6)
    | some ls => if hasSlot 1000000 true ls then (none, 1) else (some ls, 0)
theorem markN_len : ∀ (live : List Int) (ls ls' : List (Int × Bool)), markN ls live = some ls' → ls'.length = ls.length
  | [], ls, ls', h => by simp [markN] at h; rw [h]
  | k :: r, ls, ls', h => by
    unfold markN at h
    split at h
    · cases h
    · rw [markN_len r _ _ h]; simp
def LoadEnd (w : World) (x : Option (List (Int × Bool)) × Int) (e : Ending) (w' : World) : Prop :=
  Below w.heap.size w w' ∧ match x with
    | (none, n) => e = .returned (.tuple #[.pointer none, .int .i64 n])
    | (some ls, n) => ∃ p, e = .returned (.tuple #[.pointer (some ⟨p, 0, none⟩), .int .i64 n]) ∧ SlotsAt w' p ls (fun k => w.heap.size ≤ k)

theorem markN_append : ∀ (a b : List Int) (ls : List (Int × Bool)), markN ls (a ++ b) = (markN ls a).bind fun l => markN l b
  | [], b, ls => rfl
  | k :: a, b, ls => by
    rw [List.cons_append, markN, markN]
    split
    · rfl
    · exact markN_append a b _
theorem markN_none {base ls : List (Int × Bool)} {l : List Int} {k : Nat} (hk : k < l.length) (h : markN base (l.take k) = some ls) (hx : (ls.getD l[k].toNat (0, false)).2 = true) : markN base l = none := by
  rw [← List.take_append_drop k l, markN_append, h, List.drop_eq_getElem_cons hk, Option.bind_some, markN, if_pos hx]
theorem markN_step {base ls : List (Int × Bool)} {l : List Int} {k : Nat} (hk : k < l.length) (h : markN base (l.take k) = some ls) (hx : (ls.getD l[k].toNat (0, false)).2 = false) :
    markN base (l.take (k + 1)) = some (ls.set l[k].toNat ((ls.getD l[k].toNat (0, false)).1, true)) := by
  rw [List.take_succ_eq_append_getElem hk, markN_append, h, Option.bind_some, markN, if_neg (by rw [hx]; simp), markN]
theorem badIx_no {n : Nat} {l : List Int} (h : anyOf (badIx n) l = false) {x : Int} (hx : x ∈ l) : 0 ≤ x ∧ x < n := by
  unfold anyOf at h
  rw [List.any_eq_false] at h
  have := h x hx
  simp [badIx] at this
  omega

theorem load_any (A A' : Option Addr) (c c' : Nat) (gens live : List Int) (w : World) (h : ReadsI w w.heap.size A gens.length gens) (h' : ReadsI w w.heap.size A' live.length live) (hn : gens.length ≤ maxLen) (hn' : live.length ≤ maxLen) :
    Calls Tryz.prog 72 #[.slice A gens.length c, .slice A' live.length c'] w (LoadEnd w (loadR gens live)) := by
  have H := Lib.hid h
  have H' := Lib.hid h'
  have HN := Lib.hid hn
  have HN' := Lib.hid hn'
  have hm1 : (gens.length : Int) ≤ 9223372036854775807 := by unfold maxLen at hn; omega
  have hm2 : (live.length : Int) ≤ 9223372036854775807 := by unfold maxLen at hn'; omega
  clear h h' hn hn'
  by_cases h60 : 60 < gens.length
  · have HR : Hid (loadR gens live = (none, 2)) := by unfold Hid loadR; rw [if_pos h60]
    have h60' : (60 : Int) < gens.length := by omega
    go_enter Tryz.func72, Tryz.ntmps72
    go_wp2_with fail
    go_ret2
    rw [HR.out]
    exact ⟨(Below.refl _ _).alloc (Nat.le_refl _) _, rfl⟩
  have h60' : (gens.length : Int) ≤ 60 := by omega
  have h60n : gens.length ≤ 60 := by omega
  go_enter Tryz.func72, Tryz.ntmps72
  go_upto_region 1 with (fail)
  refine wp_abs (fun w' => Blk w' w.heap.size 22 #[.slice A gens.length c] ∧ Below w.heap.size w w') ⟨Blk.new _ _ _, (Below.refl _ _).alloc (Nat.le_refl _) _⟩ ?_
  rintro w1 ⟨hB1, hb1⟩
  have HB1 := Lib.hid hB1
  have HO1 := Lib.hid hb1
  have c1 : w1.cell? ⟨w.heap.size, 0, none⟩ = some (.slice A gens.length c) := hB1.cell 0
  have r1 : ReadsI w1 w1.heap.size A gens.length gens := (H.out.below hb1).more hb1.size
  have r2 : ReadsI w1 w1.heap.size A' live.length live := (H'.out.below hb1).more hb1.size
  have R1 := Lib.hid r1
  have R2 := Lib.hid r2
  clear hB1 hb1 r1 r2
  go_wp2_with fail
  refine (containsFunc1_any A c gens w1 R1.out HN.out).mono ?_
  rintro e w' ⟨rfl, rfl⟩
  cases hG : anyOf badGen gens
  rotate_left
  · have HR : Hid (loadR gens live = (none, 1)) := by unfold Hid loadR; rw [if_neg h60, if_pos hG]
    clear hG
    go_wp2_with fail
    go_ret2
    rw [HR.out]
    exact ⟨HO1.out, rfl⟩
  have HG := Lib.hid hG
  clear hG
  go_wp2_with fail
  refine (containsFunc2_any w.heap.size gens.length A c A' c' live w1 c1 h60n R2.out HN'.out).mono ?_
  rintro e w' ⟨rfl, rfl⟩
  cases hI : anyOf (badIx gens.length) live
  rotate_left
  · have HR : Hid (loadR gens live = (none, 5)) := by unfold Hid loadR; rw [if_neg h60, if_neg (by rw [HG.out]; simp), if_pos hI]
    clear hI
    go_wp2_with fail
    go_ret2
    rw [HR.out]
    exact ⟨HO1.out, rfl⟩
  have HI := Lib.hid hI
  clear hI
  go_wp2_with fail
  refine (new_any w1).mono ?_
  rintro e w2 ⟨rfl, hs2, hb2⟩
  have HS2 : Hid (SlotsAt w2 w1.heap.size [] (fun q => w1.heap.size ≤ q)) := hs2.mono fun k _ hk => by rcases hk with hk | hk; exact absurd hk (by simp); exact hk.1
  have HB2 := Lib.hid hb2
  clear hs2 hb2
  have c2 : w2.cell? ⟨w.heap.size, 0, none⟩ = some (.slice A gens.length c) := (HB2.out.cell (p := ⟨w.heap.size, 0, none⟩) (World.block_lt_of_cell? _ _ c1)).trans c1
  generalize hp : w1.heap.size = p at *
  have HP := Lib.hid hp
  clear hp c1
  go_wp2_with fail
  go_loopw [25] (fun i w' => ∃ k : Nat, k ≤ gens.length ∧ i = .int .i64 k ∧ SlotsAt w' p ((gens.take k).map fun g => (g, false)) (fun q => p ≤ q) ∧ Below p w1 w') (fun i _ => gens.length - (intOf i).toNat)
  case atStart => exact ⟨0, by omega, rfl, HS2.out, HB2.out⟩
  case round =>
    clear c2
    obtain ⟨k, hk, rfl, hs, hb⟩ := hrel
    have HS := Lib.hid hs
    have HB := Lib.hid hb
    clear hs hb
    by_cases hlt : k < gens.length
    · have hki : (k : Int) < gens.length := by omega
      obtain ⟨g, o, rfl, hgl, hkl, hc⟩ := R1.out.at_ hlt
      have hc' : wr.cell? ⟨g, o + k, none⟩ = some (.int .i64 gens[k]) := (HB.out.cell (p := ⟨g, o + k, none⟩) hgl).trans hc
      have hN : Hid ((gens.take (k + 1)).map (fun g => (g, false)) = (gens.take k).map (fun g => (g, false)) ++ [(gens[k], false)]) := by
        unfold Hid; rw [List.take_succ_eq_append_getElem hkl, List.map_append]; rfl
      have hlen : Hid (((gens.take k).map fun g => (g, false)).length = k) := by unfold Hid; simp; omega
      clear hc
      generalize hL' : (gens.take (k + 1)).map (fun g => (g, false)) = ls' at *
      have HL' := Lib.hid hL'
      clear hL'
      generalize (gens.take k).map (fun g => (g, false)) = ls at *
      generalize gens[k] = x at *
      have hcol : ColAt 145 147 2 slotC wr p ls (fun q => p ≤ q) := HS.out
      obtain ⟨A2, c3, f1, f2, f3, f4, f5, f6, f7, f8⟩ := hcol.slice
      have HC := Lib.hid hcol
      have F5 := Lib.hid f5
      have hll : ls.length ≤ 60 := by rw [hlen.out]; omega
      obtain ⟨i0, hi0, hz0, hz1, hz2⟩ := info_parts slot_parts
      clear hcol f5 f6 f7 f8 f2 f3 f4
      go_wp2_with (at_builtin; refine wpList_append1_at rfl _ _ _ rfl 0 147 i0 _ 2 16 Tryz.underlying143 hi0 hz0 hz1 hz2 rfl (by decide) (.slice A2 ls.length c3) ls.length (ls.flatMap slotC) rfl F5.out [.int .i64 x, .bool false] rfl rfl (by simp [Value.oneCell']) (by unfold maxLen; omega) (by omega) (Nat.zero_le _) ?_)
      intro v' w3 hown3 hg3 hat
      obtain ⟨A4, c4, rfl, _, _, _⟩ := own_form hown3
      obtain ⟨g1, g2, g3, g4⟩ := HC.out.append (x := (x, false)) f1 hown3 hg3 hat
      have G3 : Hid (SlotsAt (w3.setCell ⟨p, 0, none⟩ (.slice A4 (ls.length + 1) c4)) p ls' (fun q => p ≤ q)) := by unfold Hid; rw [hN.out]; exact g3.mono fun k _ hk => by rcases hk with hk | hk; exact hk; have := HC.out.lt; omega
      have G4 : Hid (Below p w1 (w3.setCell ⟨p, 0, none⟩ (.slice A4 (ls.length + 1) c4))) := HB.out.trans (g4.below (by have := HC.out.lt; omega) fun k _ h => h)
      clear g3 g4 hown3 hg3 hat f1
      go_wp2_with fail
      go_roundw
      case rel => exact ⟨k + 1, by omega, by go_num, by rw [HL'.out]; exact G3.out, G4.out⟩
      case measure => simp [intOf]; omega
    · have hkn : k = gens.length := by omega
      subst hkn
      rw [List.take_length] at HS
      clear hlt hk
      go_wp2_with fail
      have HN2 : Hid (((gens.map fun g => (g, false)) : List (Int × Bool)).length = gens.length) := by unfold Hid; rw [List.length_map]
      have HR0 : Hid (loadR gens live = match markN (gens.map fun g => (g, false)) live with | none => (none, 6) | some ls => if hasSlot 1000000 true ls then (none, 1) else (some ls, 0)) := by
        unfold Hid loadR; rw [if_neg h60, if_neg (by rw [HG.out]; simp), if_neg (by rw [HI.out]; simp)]
      generalize (gens.map fun g => (g, false)) = base at *
      go_loopw [43] (fun i w' => ∃ k : Nat, k ≤ live.length ∧ i = .int .i64 k ∧ ∃ ls, markN base (live.take k) = some ls ∧ SlotsAt w' p ls (fun q => p ≤ q) ∧ Below p w1 w') (fun i _ => live.length - (intOf i).toNat)
      case atStart => exact ⟨0, by omega, rfl, base, rfl, HS.out, HB.out⟩
      case round =>
        obtain ⟨k, hk, rfl, ls, hmk, hs, hb⟩ := hrel
        have HS := Lib.hid hs
        have HB := Lib.hid hb
        have HM := Lib.hid hmk
        have hll : Hid (ls.length = gens.length) := (markN_len _ _ _ hmk).trans HN2.out
        clear hs hb hmk
        obtain ⟨A2, c3, f1, f2, f3, f4, f5, f6, f7⟩ := HS.out.facts
        have F5 := Lib.hid f5
        by_cases hlt : k < live.length
        · have hki : (k : Int) < live.length := by omega
          obtain ⟨g, o, rfl, hgl, hkl, hc⟩ := R2.out.at_ hlt
          have hc' : wr.cell? ⟨g, o + k, none⟩ = some (.int .i64 live[k]) := (HB.out.cell (p := ⟨g, o + k, none⟩) hgl).trans hc
          obtain ⟨hx0, hx1⟩ := badIx_no HI.out (List.getElem_mem hkl)
          have HNo : Hid ((ls.getD live[k].toNat (0, false)).2 = true → markN base live = none) := fun h => markN_none hkl HM.out h
          have HSt : Hid ((ls.getD live[k].toNat (0, false)).2 = false → markN base (live.take (k + 1)) = some (ls.set live[k].toNat ((ls.getD live[k].toNat (0, false)).1, true))) := fun h => markN_step hkl HM.out h
          clear hc
          generalize live[k] = x at *
          obtain ⟨m, rfl⟩ : ∃ m : Nat, x = m := ⟨x.toNat, by omega⟩
          rw [Int.toNat_natCast] at HNo HSt
          have hml : m < ls.length := by rw [hll.out]; omega
          have hmi : (m : Int) < ls.length := by omega
          obtain ⟨q, rfl, hg1, hg2, hg3, hg4, hg5, hg6, hg7, hg8, hg9⟩ := f7 m hml
          have HLV := Lib.hid (HS.out.live hml f1 true)
          cases hfl : (ls.getD m (0, false)).2
          · have HT := Lib.hid (HSt.out hfl)
            rw [hfl] at hg9
            clear hfl hg7 hg8 f5 f6 f7 HNo HSt hg4 hg6 f3 f4
            go_wp2_with fail
            go_roundw
            case rel => exact ⟨k + 1, by omega, by go_num, _, HT.out, HLV.out.1, HB.out.trans (HLV.out.2.below (by have := HS.out.lt; omega) fun k _ h => h)⟩
            case measure => simp [intOf]; omega
          · have HT := Lib.hid (HNo.out hfl)
            have HR : Hid (loadR gens live = (none, 6)) := by unfold Hid; rw [HR0.out, HT.out]
            rw [hfl] at hg9
            clear hfl hg7 hg8 f5 f6 f7 HNo HSt hg4 hg6 f3 f4
            go_wp2_with fail
            go_ret2
            rw [HR.out]
            exact ⟨HO1.out.trans (HB.out.mono (by rw [← HP.out]; exact HO1.out.size)), rfl⟩
        · have hkn : k = live.length := by omega
          subst hkn
          rw [List.take_length] at HM
          clear hlt hk f5 f6 f7
          go_wp2_with fail
          refine (hasSlot_any A2 c3 ls 1000000 true wr F5.out (by rw [hll.out]; omega)).mono ?_
          rintro e w4 ⟨rfl, hb4⟩
          have HSL : Hid (SlotsAt w4 p ls (fun q => p ≤ q)) := HS.out.only (G := fun _ => False) (Only.of_below hb4) (fun _ _ h => h)
          have HBL : Hid (Below w.heap.size w w4) := HO1.out.trans ((HB.out.mono (by rw [← HP.out]; exact HO1.out.size)).trans (hb4.mono (by have := HB.out.size; have := HO1.out.size; omega)))
          have HPw : Hid (w.heap.size ≤ p) := by unfold Hid; rw [← HP.out]; exact HO1.out.size
          cases hH : hasSlot 1000000 true ls
          · have HR : Hid (loadR gens live = (some ls, 0)) := by
              unfold Hid; rw [HR0.out, HM.out]; simp only [hH]; rfl
            clear hH
            go_wp2_with fail
            go_ret2
            rw [HR.out]
            exact ⟨HBL.out, p, rfl, HSL.out.mono fun k _ h => by have := HPw.out; omega⟩
          · have HR : Hid (loadR gens live = (none, 1)) := by
              unfold Hid; rw [HR0.out, HM.out]; simp only [hH]; rfl
            clear hH
            go_wp2_with fail
            go_ret2
            rw [HR.out]
            exact ⟨HBL.out, rfl⟩

theorem load_any' (A A' : Option Addr) (n n' c c' : Nat) (gens live : List Int) (w : World) (h : ReadsI w w.heap.size A n gens) (h' : ReadsI w w.heap.size A' n' live) (hn : n ≤ maxLen) (hn' : n' ≤ maxLen) :
    Calls Tryz.prog 72 #[.slice A n c, .slice A' n' c'] w (LoadEnd w (loadR gens live)) := by
  obtain rfl := h.len
  obtain rfl := h'.len
  exact load_any A A' c c' gens live w h h' hn hn'

end Go.Proofs.YtpgcghnlepnoiaaGreatDoor

/-
  Plain facts on slots: what is taken, freed, listed, loaded.
-/
namespace Go.Proofs.YtpgcghnlepnoiaaGreatDoor

/-- slots that may be -/
def SOk (ls : List (Int × Bool)) : Prop := ls.length ≤ 60 ∧ ∀ x ∈ ls, 0 ≤ x.1 ∧ x.1 ≤ 1000000 ∧ (x.2 = true → x.1 < 1000000)
theorem SOk.gens {ls : List (Int × Bool)} (h : SOk ls) : GensOk ls := fun x hx => ⟨(h.2 x hx).1, (h.2 x hx).2.1⟩
theorem SOk.nil : SOk [] := ⟨by simp, by simp⟩
theorem getD_at {ls : List (Int × Bool)} {k : Nat} (h : k < ls.length) : ls.getD k (0, false) = ls[k] := by simp [List.getD, List.getElem?_eq_getElem h]
theorem take_ok {ls : List (Int × Bool)} (h : SOk ls) : SOk (takeR ls).1 := by
  unfold takeR
  split
  · rename_i hlt
    refine ⟨by simpa using h.1, fun x hx => ?_⟩
    rcases List.mem_or_eq_of_mem_set hx with hx | rfl
    · exact h.2 x hx
    · have hf := List.findIdx_getElem (w := hlt)
      rw [getD_at hlt]
      have := h.2 _ (List.getElem_mem hlt)
      simp only [freeB, Bool.and_eq_true, decide_eq_true_eq] at hf
      exact ⟨this.1, this.2.1, fun _ => hf.2⟩
  · split
    · exact h
    · rename_i hn
      have h1 := h.1
      refine ⟨by simp; omega, fun x hx => ?_⟩
      rcases List.mem_append.1 hx with hx | hx
      · exact h.2 x hx
      · rw [List.mem_singleton.1 hx]; exact ⟨by decide, by decide, fun _ => by decide⟩
theorem free_ok {ls : List (Int × Bool)} (h : SOk ls) (a b : Int) : SOk (freeR ls a b).1 := by
  unfold freeR
  split
  · rename_i hl
    obtain ⟨k, rfl, hk, hkb⟩ := live_true hl
    refine ⟨by simpa using h.1, fun x hx => ?_⟩
    rcases List.mem_or_eq_of_mem_set hx with hx | rfl
    · exact h.2 x hx
    · rw [getD_at hk] at hkb
      have := h.2 _ (List.getElem_mem hk)
      rw [hkb] at this
      have h3 := this.2.2 rfl
      exact ⟨by have := this.1; simp only at this ⊢; omega, by simp only at h3 ⊢; omega, fun h => by cases h⟩
  · exact h

theorem liveN_map (ls : List (Int × Bool)) : ∀ k, k ≤ ls.length → markN ((gensL ls).map fun g => (g, false)) ((liveN ls k).map (·.1)) = some (ls.take k ++ (ls.drop k).map fun x => (x.1, false))
  | 0, _ => by simp [liveN, markN, gensL_map]
  | k + 1, h => by
    rw [liveN, List.map_append, markN_append, liveN_map ls k (by omega), Option.bind_some, getD_at (by omega)]
    have hd : ls.drop k = ls[k] :: ls.drop (k + 1) := List.drop_eq_getElem_cons (by omega)
    have hl : (ls.take k).length = k := by rw [List.length_take]; omega
    rw [List.take_succ_eq_append_getElem (by omega), hd, List.map_cons]
    generalize ls[k] = x
    obtain ⟨g, b⟩ := x
    cases b
    · simp [markN]
    · simp only [if_true, List.map_cons, List.map_nil]
      unfold markN
      have e : (ls.take k ++ (g, false) :: (ls.drop (k + 1)).map fun x => (x.1, false)).getD (Int.toNat (k : Int)) (0, false) = (g, false) := by
        rw [Int.toNat_natCast]
        simp only [List.getD]
        rw [List.getElem?_append_right (by omega), hl, Nat.sub_self]; rfl
      rw [e]
      simp only [Bool.false_eq_true, if_false, markN, Option.some.injEq, Int.toNat_natCast]
      rw [List.set_append_right _ _ (by omega), hl, Nat.sub_self]
      simp
theorem load_back {ls : List (Int × Bool)} (h : SOk ls) : loadR (gensL ls) ((liveHs ls).map (·.1)) = (some ls, 0) := by
  unfold loadR
  have hlen : (gensL ls).length = ls.length := by rw [gensL_map]; simp
  have h60 := h.1
  have h1 : anyOf badGen (gensL ls) = false := by
    unfold anyOf
    rw [List.any_eq_false]
    intro x hx
    rw [gensL_map] at hx
    obtain ⟨y, hy, rfl⟩ := List.mem_map.1 hx
    have := h.2 y hy
    simp [badGen]; omega
  have hmem : ∀ k, ∀ x ∈ liveN ls k, 0 ≤ x.1 ∧ x.1 < k := by
    intro k
    induction k with
    | zero => simp [liveN]
    | succ k ih =>
      intro x hx
      rw [liveN] at hx
      rcases List.mem_append.1 hx with hx | hx
      · have := ih x hx; omega
      · split at hx
        · rw [List.mem_singleton.1 hx]; simp only; omega
        · cases hx
  have h2 : anyOf (badIx (gensL ls).length) ((liveHs ls).map (·.1)) = false := by
    unfold anyOf
    rw [List.any_eq_false]
    intro x hx
    obtain ⟨y, hy, rfl⟩ := List.mem_map.1 hx
    have := hmem _ y hy
    simp [badIx, hlen]; omega
  rw [if_neg (by rw [hlen]; omega), h1, h2]
  have h3 : markN ((gensL ls).map fun g => (g, false)) ((liveHs ls).map (·.1)) = some ls := by
    unfold liveHs
    rw [liveN_map ls _ (Nat.le_refl _)]; simp
  rw [h3]
  have h4 : hasSlot 1000000 true ls = false := by
    unfold hasSlot
    rw [List.any_eq_false]
    intro x hx
    have := h.2 x hx
    simp only [isSlot, Bool.and_eq_true, decide_eq_true_eq, not_and]
    intro e1 e2
    have := this.2.2 e2.symm
    omega
  simp [h4]

/-- one move of the laws: by an even number, or where none is live, one is taken; else one is freed -/
def pick (hs : List (Int × Int)) (n : Int) : Int × Int := hs.getD (n % hs.length).toNat (0, 0)
def takes (ls : List (Int × Bool)) (n : Int) : Bool := n.tmod 2 == 0 || (liveHs ls).length == 0
def moveS (ls : List (Int × Bool)) (n : Int) : List (Int × Bool) := if takes ls n then (takeR ls).1 else (freeR ls (pick (liveHs ls) n).1 (pick (liveHs ls) n).2).1
def playS (ls : List (Int × Bool)) (zs : List Int) : List (Int × Bool) := zs.foldl moveS ls
theorem move_ok {ls : List (Int × Bool)} (h : SOk ls) (n : Int) : SOk (moveS ls n) := by
  unfold moveS; split
  · exact take_ok h
  · exact free_ok h _ _
theorem play_ok : ∀ (zs : List Int) {ls : List (Int × Bool)}, SOk ls → SOk (playS ls zs)
  | [], _, h => h
  | n :: zs, _, h => play_ok zs (move_ok h n)
theorem play_snoc (ls : List (Int × Bool)) (zs : List Int) (n : Int) : playS ls (zs ++ [n]) = moveS (playS ls zs) n := by simp [playS]

/-- a move: what it comes to -/
theorem pick_at {hs : List (Int × Int)} (n : Int) (h : 0 < hs.length) : 0 ≤ n % (hs.length : Int) ∧ n % (hs.length : Int) < hs.length := ⟨Int.emod_nonneg _ (by omega), Int.emod_lt_of_pos _ (by omega)⟩

end Go.Proofs.YtpgcghnlepnoiaaGreatDoor
