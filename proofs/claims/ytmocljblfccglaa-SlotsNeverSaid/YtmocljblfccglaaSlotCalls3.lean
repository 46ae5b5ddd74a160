/-
  Contracts of the slots' methods that write, and of those that list.
-/
import Derived.Test.YtmocljblfccglaaSlotCalls2
import Derived.Test.YtmocljblfccglaaStructs
namespace Go.Proofs.Ytmocljblfccglaa
open Go.RowKit

def freeR (ls : List (Int × Bool)) (a b : Int) : List (Int × Bool) × Int := if liveB ls a b then (ls.set a.toNat (b + 1, false), 0) else (ls, 7)
def GensOk (ls : List (Int × Bool)) : Prop := ∀ x ∈ ls, 0 ≤ x.1 ∧ x.1 ≤ 1000000

theorem live_true {ls : List (Int × Bool)} {a b : Int} (h : liveB ls a b = true) : ∃ k : Nat, a = k ∧ k < ls.length ∧ ls.getD k (0, false) = (b, true) := by
  simp only [liveB, Bool.and_eq_true, decide_eq_true_eq] at h
  obtain ⟨⟨h1, h2⟩, h3, h4⟩ := h
  refine ⟨a.toNat, by omega, by omega, Prod.ext h3 h4⟩

theorem free_any (p : Nat) (ls : List (Int × Bool)) (F : Nat → Prop) (a b : Int) (w : World) (h : SlotsAt w p ls F) (hg : GensOk ls) :
    Calls Try.prog 26 #[.pointer (some ⟨p, 0, none⟩), .agg #[.int .i64 a, .int .i64 b]] w fun e w' => e = .returned (.int .i64 (freeR ls a b).2) ∧ SlotsAt w' p (freeR ls a b).1 F ∧ Only F w w' := by
  have H := Lib.hid h
  have hd : Hid (freeR ls a b = if liveB ls a b then (ls.set a.toNat (b + 1, false), 0) else (ls, 7)) := rfl
  clear h
  go_enter Try.func26, Try.ntmps26
  go_upto_region 1 with (fail)
  have hB0 : Blk (w.alloc (.cells #[.int .i64 a, .int .i64 b] 42)) w.heap.size 42 (ints [a, b]) := Blk.new _ _ _
  refine wp_abs (fun w' => Blk w' w.heap.size 42 (ints [a, b]) ∧ Below w.heap.size w w') ⟨hB0, (Below.refl _ _).alloc (Nat.le_refl _) _⟩ ?_
  rintro w1 ⟨hB1, hb1⟩
  have HS1 : Hid (SlotsAt w1 p ls (fun k => F k ∧ k < w.heap.size)) := (H.out.mono (G := fun k => F k ∧ k < w.heap.size) fun k hk hf => ⟨hf, hk⟩).only (G := fun k => w.heap.size ≤ k) (Only.of_below hb1) (fun k hk => by omega)
  have HB1 := Lib.hid hB1
  have HO1 : Hid (Below w.heap.size w w1) := hb1
  have frow : row? w1 w.heap.size 0 2 = some (ints [a, b]) := hB1.row_all rfl
  clear hB0 hB1 hb1
  go_wp2_with fail
  refine (live_any p ls _ a b _ HS1.out).mono ?_
  rintro e w2 ⟨rfl, hb2⟩
  have HS2 : Hid (SlotsAt w2 p ls (fun k => F k ∧ k < w.heap.size)) := HS1.out.only (G := fun k => w1.heap.size ≤ k) (Only.of_below hb2) (fun k hk => by have := HO1.out.size; omega)
  have HB2 := Lib.hid (HB1.out.after hb2)
  have HO2 : Hid (Below w.heap.size w w2) := HO1.out.trans (hb2.mono HO1.out.size)
  clear hb2 HS1 HB1 HO1 frow
  cases hL : liveB ls a b
  · have HR : Hid (freeR ls a b = (ls, 7)) := by unfold Hid; rw [hd.out, hL]; rfl
    clear hL
    go_wp2_with fail
    go_ret
    rw [HR.out]
    exact ⟨rfl, HS2.out.mono fun k _ h => h.1, (Only.of_below HO2.out)⟩
  · obtain ⟨k, rfl, hk, hkb⟩ := live_true hL
    have HR : Hid (freeR ls k b = (ls.set k (b + 1, false), 0)) := by unfold Hid; rw [hd.out, hL]; rfl
    have hbb := hg (b, true) (by rw [← hkb]; simp [List.getD, List.getElem?_eq_getElem hk])
    simp only at hbb
    have hsum : IntKind.i64.wrap (b + 1) = b + 1 := IntWalk.i64_in _ (by omega)
    have hki : (k : Int) < ls.length := by omega
    obtain ⟨A, c, f1, f2, f3, f4, f5, f6, f7⟩ := HS2.out.facts
    obtain ⟨g, rfl, hg1, hg2, hg3, hg4, hg5, hg6, hg7, hg8, hg9⟩ := f7 k hk
    have c1 : w2.cell? ⟨w.heap.size, 0, none⟩ = some (.int .i64 k) := HB2.out.cell 0
    have c2 : w2.cell? ⟨w.heap.size, 1, none⟩ = some (.int .i64 b) := HB2.out.cell 1
    have HP := Lib.hid (HS2.out.put hk f1 (b + 1) false)
    clear hL f2 f3 f4 f5 f6 f7 hg4 hg5 hg7 hg8 hg9 hkb hd
    go_upto_region 3 with (fail)
    go_still_tail 11, (by kernel_rfl)
    repeat still_step
    change wpList _ _ _ _ _ w2.drew
    go_wp2_with fail
    go_ret
    rw [HR.out]
    refine ⟨rfl, ?_, ?_⟩
    · exact (HP.out.1.mono fun k _ h => h.1)
    · exact ((Only.of_below HO2.out).trans (HP.out.2.mono fun k _ h => h.1)).drew

end Go.Proofs.Ytmocljblfccglaa
