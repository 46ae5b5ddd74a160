/-
  The table's methods over a table among other things; vivariumref.Kinds.
-/
import Derived.Test.YtpgdobomcdpdbaaTableNew
import Derived.Test.YtpgdobomcdpdbaaTableAdd
import Derived.Test.YtpgdobomcdpdbaaTableRemove
namespace Go.Proofs.Ytpgdobomcdpdbaa
open Go.RowKit

section
variable {w0 w : World} {l : List Assn} {p : Nat} {K : Int} {rows : List RowM} {G : Nat → Prop}
theorem tnew_in (K : Int) (hK : 0 ≤ K ∧ K ≤ 255) (h : In G w0 l w) : Calls Try.prog 41 #[.int .i64 K] w fun e w' => ∃ p, e = .returned (.tuple #[.pointer (some ⟨p, 0, none⟩), .int .i64 0]) ∧ In G w0 (Tbl p K [] :: l) w' :=
  (tnew_any K w).mono fun e w' ⟨h1, h2⟩ => by
    rw [if_pos hK] at h2
    obtain ⟨p, h2, h3⟩ := h2
    exact ⟨p, h2, h.new h1 h3⟩
theorem tadd_in (h : In G w0 (Tbl p K rows :: l) w) (r1 r2 : Int) (b : Beast) (hr : b.v.length = 8) (hl : rows.length ≤ 10000) :
    Calls Try.prog 42 #[.pointer (some ⟨p, 0, none⟩), .agg #[.int .i64 r1, .int .i64 r2], .agg (ints b.list)] w fun e w' =>
      e = .returned (.tuple #[.int .i64 (addR K rows ⟨(r1, r2), b⟩).2.1, .int .i64 (addR K rows ⟨(r1, r2), b⟩).2.2]) ∧ In G w0 (Tbl p K (addR K rows ⟨(r1, r2), b⟩).1 :: l) w' := by
  obtain ⟨F1, hA, _, hb⟩ := h.open_
  exact (tadd_any p K rows ⟨(r1, r2), b⟩ F1 w hA hr hl).mono fun e w' ⟨h1, h2, h3⟩ => ⟨h1, hb h2 h3⟩
theorem tremove_in (h : In G w0 (Tbl p K rows :: l) w) (row : Int) (hl : rows.length ≤ 10000) :
    Calls Try.prog 22 #[.pointer (some ⟨p, 0, none⟩), .int .i64 row] w fun e w' =>
      e = .returned (.tuple #[.agg (ints (removeR rows row).2.1.list), .int .i64 (removeR rows row).2.2]) ∧ In G w0 (Tbl p K (removeR rows row).1 :: l) w' := by
  obtain ⟨F1, hA, _, hb⟩ := h.open_
  exact (tremove_any p K rows row F1 w hA hl).mono fun e w' ⟨h1, h2, h3⟩ => ⟨h1, hb h2 h3⟩
theorem trow_in (h : In G w0 (Tbl p K rows :: l) w) (row : Int) (hl : rows.length ≤ 10000) :
    Calls Try.prog 21 #[.pointer (some ⟨p, 0, none⟩), .int .i64 row] w fun e w' =>
      e = .returned (.tuple #[.agg (ints (rowR rows row).1.list), .int .i64 (rowR rows row).2]) ∧ Below w.heap.size w w' ∧ In G w0 (Tbl p K rows :: l) w' := by
  obtain ⟨F1, hA⟩ := h.head
  obtain ⟨hv, mb, cb, hS⟩ := Tbl.see hA
  exact (trow_any row w hS (by omega)).mono fun e w' ⟨h1, h2⟩ => ⟨h1, h2, h.below h2⟩
theorem tcolumn_in (h : In G w0 (Tbl p K rows :: l) w) (kind : Int) (hl : rows.length ≤ 10000) :
    Calls Try.prog 18 #[.pointer (some ⟨p, 0, none⟩), .int .i64 kind] w fun e w' => ColEnd w K rows kind e w' ∧ In G w0 (Tbl p K rows :: l) w' := by
  obtain ⟨F1, hA⟩ := h.head
  obtain ⟨hv, mb, cb, hS⟩ := Tbl.see hA
  exact (tcolumn_any kind w hS (by omega)).mono fun e w' h1 => ⟨h1, h.below h1.1⟩
theorem thandles_in (h : In G w0 (Tbl p K rows :: l) w) (hl : rows.length ≤ 10000) :
    Calls Try.prog 17 #[.pointer (some ⟨p, 0, none⟩)] w fun e w' => ∃ v, e = .returned v ∧ w'.ownsRow w.heap.size 36 2 v rows.length (rows.flatMap fun r => hC r.h) ∧ Below w.heap.size w w' ∧ In G w0 (Tbl p K rows :: l) w' := by
  obtain ⟨F1, hA⟩ := h.head
  obtain ⟨hv, mb, cb, hS⟩ := Tbl.see hA
  exact (thandles_any w hS (by omega)).mono fun e w' ⟨v, h1, h2, h3⟩ => ⟨v, h1, h2, h3, h.below h3⟩
end

def kN (m : Nat) (j : Nat) : List Int := ((List.range j).filter fun k => m.testBit k).map Int.ofNat
theorem kN_succ (m j : Nat) : kN m (j + 1) = kN m j ++ if m.testBit j then [(j : Int)] else [] := by
  unfold kN
  rw [List.range_succ, List.filter_append, List.map_append]
  congr 1
  cases h : m.testBit j <;> simp [h]
theorem kN_len (m : Nat) : ∀ j, (kN m j).length ≤ j
  | 0 => by simp [kN]
  | j + 1 => by
    have := kN_len m j
    rw [kN_succ, List.length_append]
    split <;> simp <;> omega
theorem rkinds_any (m : Int) (w : World) : Calls Try.prog 44 #[.int .i64 m] w (IsInts w (kindsI (m8 m))) := by
  have he : Hid (kN (m8 m) 8 = kindsI (m8 m)) := rfl
  go_enter Try.func44, Try.ntmps44
  go_wp2_with fail
  go_loopw [5, 3] (fun i out w' => ∃ j : Nat, j ≤ 8 ∧ i = .int .i64 j ∧ OwnI w' w.heap.size out (kN (m8 m) j) ∧ Below w.heap.size w w') (fun i _ _ => 8 - (intOf i).toNat)
  case atStart => exact ⟨0, by omega, rfl, OwnI.nil _ _, Below.refl _ _⟩
  case round =>
    obtain ⟨j, hj, rfl, ho, hb⟩ := hrel
    have HO := Lib.hid ho
    have HB := Lib.hid hb
    clear ho hb
    by_cases hlt : j < 8
    · have hji : (j : Int) < 8 := by omega
      have HN := Lib.hid (kN_succ (m8 m) j)
      have hlen := kN_len (m8 m) j
      go_wp2_with fail
      refine (hasKind_any m j wr hlt).mono ?_
      rintro e w' ⟨rfl, rfl⟩
      cases ht : (m8 m).testBit j
      · rw [ht] at HN
        clear ht
        go_wp2_with fail
        go_roundw
        case rel => exact ⟨j + 1, by omega, by go_num, by rw [HN.out]; simpa using HO.out, HB.out⟩
        case measure => simp [intOf]; omega
      · rw [ht] at HN
        clear ht
        go_wp2_with (at_builtin; refine wpList_append_i rfl _ _ rfl w.heap.size _ _ rfl HO.out (j : Int) rfl ?_ ?_ ?_)
        case refine_1 => omega
        case refine_2 => exact HB.out.size
        intro v' w3 hown3 _ hb3
        go_wp2_with fail
        go_roundw
        case rel => exact ⟨j + 1, by omega, by go_num, by rw [HN.out]; exact hown3, HB.out.trans hb3⟩
        case measure => simp [intOf]; omega
    · have : j = 8 := by omega
      subst this
      go_wp2_with fail
      go_ret
      exact ⟨_, rfl, he.out ▸ HO.out, HB.out⟩

end Go.Proofs.Ytpgdobomcdpdbaa
