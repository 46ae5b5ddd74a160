/-
  Several texts in one (merged by a program of mine): SlotLaws.
-/
import Derived.Test.YtpgcghnlepnoiaaGreatMP29
set_option linter.unusedVariables false
set_option linter.unusedSimpArgs false
set_option linter.unusedSectionVars false
/-
  The closed fact 'slotted', and the walk of the law SlotsBack.
-/
namespace Go.Proofs.YtpgcghnlepnoiaaGreat
open Go.RowKit

def SlotsA (p : Nat) (ls : List (Int × Bool)) : Assn := Col 104 106 2 slotC p ls


theorem take_in {w0 w : World} {p : Nat} {ls : List (Int × Bool)} {l : List Assn} (h : In (fun _ => False) w0 (SlotsA p ls :: l) w) (hl : ls.length ≤ 60) :
    Calls Tryz.prog 29 #[.pointer (some ⟨p, 0, none⟩)] w fun e w' => e = .returned (.tuple #[.agg (ints [(takeR ls).2.1.1, (takeR ls).2.1.2]), .int .i64 (takeR ls).2.2]) ∧ In (fun _ => False) w0 (SlotsA p (takeR ls).1 :: l) w' := by
  obtain ⟨F1, hA, hF, hb⟩ := h.open_
  exact (take_any p ls F1 w hA hl).mono fun e w' ⟨h1, h2, h3⟩ => ⟨h1, hb (A' := SlotsA p (takeR ls).1) h2 h3⟩
theorem free_in {w0 w : World} {p : Nat} {ls : List (Int × Bool)} {l : List Assn} (h : In (fun _ => False) w0 (SlotsA p ls :: l) w) (hg : GensOk ls) (a b : Int) :
    Calls Tryz.prog 58 #[.pointer (some ⟨p, 0, none⟩), .agg #[.int .i64 a, .int .i64 b]] w fun e w' => e = .returned (.int .i64 (freeR ls a b).2) ∧ In (fun _ => False) w0 (SlotsA p (freeR ls a b).1 :: l) w' := by
  obtain ⟨F1, hA, hF, hb⟩ := h.open_
  exact (free_any p ls F1 a b w hA hg).mono fun e w' ⟨h1, h2, h3⟩ => ⟨h1, hb (A' := SlotsA p (freeR ls a b).1) (SlotsAt.mono h2 fun k _ h => Or.inl h) h3⟩
theorem live_in {w0 w : World} {p : Nat} {ls : List (Int × Bool)} {l : List Assn} (h : In (fun _ => False) w0 (SlotsA p ls :: l) w) (a b : Int) :
    Calls Tryz.prog 20 #[.pointer (some ⟨p, 0, none⟩), .agg #[.int .i64 a, .int .i64 b]] w fun e w' => e = .returned (.bool (liveB ls a b)) ∧ Below w.heap.size w w' ∧ In (fun _ => False) w0 (SlotsA p ls :: l) w' := by
  obtain ⟨F1, hA⟩ := h.head
  exact (live_any p ls F1 a b w hA).mono fun e w' ⟨h1, h2⟩ => ⟨h1, h2, h.below h2⟩
theorem gens_in {w0 w : World} {p : Nat} {ls : List (Int × Bool)} {l : List Assn} (h : In (fun _ => False) w0 (SlotsA p ls :: l) w) (hl : ls.length ≤ 60) :
    Calls Tryz.prog 49 #[.pointer (some ⟨p, 0, none⟩)] w fun e w' => ∃ v, e = .returned v ∧ OwnI w' w.heap.size v (gensL ls) ∧ Below w.heap.size w w' ∧ In (fun _ => False) w0 (SlotsA p ls :: l) w' := by
  obtain ⟨F1, hA⟩ := h.head
  exact (gens_any p ls F1 w hA hl).mono fun e w' ⟨v, h1, h2, h3⟩ => ⟨v, h1, h2, h3, h.below h3⟩
theorem new_in {w0 w : World} {l : List Assn} (h : In (fun _ => False) w0 l w) : Calls Tryz.prog 51 #[] w fun e w' => ∃ p, e = .returned (.pointer (some ⟨p, 0, none⟩)) ∧ In (fun _ => False) w0 (SlotsA p [] :: l) w' :=
  (new_any w).mono fun e w' ⟨h1, h2, h3⟩ => ⟨_, h1, h.new (A := SlotsA w.heap.size []) h3 (h2.mono fun k _ hk => by rcases hk with hk | hk; exact hk.elim; exact hk.1)⟩

theorem OwnH.chunks {w : World} {B : Nat} {v : Value} {hs : List (Int × Int)} (h : OwnH w B v hs) : ∃ A c, v = .slice A hs.length c ∧ Chunks w w.heap.size 2 A (hs.map hL) := by
  obtain ⟨A, c, rfl, hr⟩ := h.form
  refine ⟨A, c, rfl, fun r hr => by obtain ⟨x, _, rfl⟩ := List.mem_map.1 hr; rfl, fun h0 => ?_⟩
  obtain ⟨g, rfl, hg1, hg2, _⟩ := hr 0 (by simpa using h0)
  refine ⟨g, 0, rfl, hg2, fun k r hk => ?_⟩
  rw [List.getElem?_map] at hk
  obtain ⟨x, hx, rfl⟩ := Option.map_eq_some_iff.1 hk
  have hkl := (List.getElem?_eq_some_iff.1 hx).1
  obtain ⟨g', e, _, _, h3, _⟩ := hr k hkl
  injection e with e
  injection e with e
  subst e
  have hgd : hs.getD k (0, 0) = x := by simp [List.getD, hx]
  rw [hgd] at h3
  rw [Nat.zero_add]; exact h3


end Go.Proofs.YtpgcghnlepnoiaaGreat
