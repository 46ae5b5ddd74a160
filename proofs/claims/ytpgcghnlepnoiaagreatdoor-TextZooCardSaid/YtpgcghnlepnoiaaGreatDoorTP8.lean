/-
  Several texts in one (merged by a program of mine): Chunks, SysIn, Checks, Checks2.
-/
import Derived.Test.YtpgcghnlepnoiaaGreatDoorTP7
import Derived.Laws.MakeOwn
set_option linter.unusedVariables false
set_option linter.unusedSimpArgs false
set_option linter.unusedSectionVars false
/-
  Slices whose elements are flat rows of ints, as a function reads them; a new slice of ints.
-/
namespace Go.Proofs.YtpgcghnlepnoiaaGreatDoor
open Go.RowKit

/-- a slice (nil, or not) that reads as the rows rs, of 'size' ints each; it lies below block B -/
def Chunks (w : World) (B size : Nat) (A : Option Addr) (rs : List (List Int)) : Prop :=
  (∀ r ∈ rs, r.length = size) ∧ (0 < rs.length → ∃ b o, A = some ⟨b, o, none⟩ ∧ b < B ∧ ∀ k r, rs[k]? = some r → row? w b (o + k * size) size = some (ints r))
theorem row_below {w w' : World} {B g : Nat} (hb : Below B w w') (hg : g < B) (o n : Nat) : row? w' g o n = row? w g o n := by
  unfold row?; rw [hb.block g hg]
theorem Chunks.below {w w' : World} {B size : Nat} {A : Option Addr} {rs : List (List Int)} (h : Chunks w B size A rs) (hb : Below B w w') : Chunks w' B size A rs :=
  ⟨h.1, fun h0 => by
    obtain ⟨b, o, e, hlt, hc⟩ := h.2 h0
    exact ⟨b, o, e, hlt, fun k r hr => (row_below hb hlt _ _).trans (hc k r hr)⟩⟩
theorem Chunks.more {w : World} {B B' size : Nat} {A : Option Addr} {rs : List (List Int)} (h : Chunks w B size A rs) (hB : B ≤ B') : Chunks w B' size A rs :=
  ⟨h.1, fun h0 => by
    obtain ⟨b, o, e, hlt, hc⟩ := h.2 h0
    exact ⟨b, o, e, by omega, hc⟩⟩
theorem Chunks.at_ {w : World} {B size : Nat} {A : Option Addr} {rs : List (List Int)} (h : Chunks w B size A rs) {k : Nat} (hk : k < rs.length) :
    ∃ b o, A = some ⟨b, o, none⟩ ∧ b < B ∧ row? w b (o + k * size) size = some (ints rs[k]) := by
  obtain ⟨b, o, e, hlt, hc⟩ := h.2 (by omega)
  exact ⟨b, o, e, hlt, hc k _ (List.getElem?_eq_getElem hk)⟩

/-- n rows of 'size' ints each, cut from a list of ints -/
def cutRows (size : Nat) (xs : List Int) (n : Nat) : List (List Int) := (List.range n).map fun k => (xs.drop (k * size)).take size
theorem cutRows_len (size : Nat) (xs : List Int) (n : Nat) : (cutRows size xs n).length = n := by simp [cutRows]
theorem cutRows_size {size : Nat} {xs : List Int} {n : Nat} (h : xs.length = n * size) : ∀ r ∈ cutRows size xs n, r.length = size := by
  intro r hr
  obtain ⟨k, hk, rfl⟩ := List.mem_map.1 hr
  have hk' : k + 1 ≤ n := List.mem_range.1 hk
  have := Nat.mul_le_mul_right size hk'
  rw [Nat.add_mul, Nat.one_mul] at this
  rw [List.length_take, List.length_drop]; omega
theorem cutRows_mem {size : Nat} {xs : List Int} {n : Nat} : ∀ r ∈ cutRows size xs n, ∀ x ∈ r, x ∈ xs := by
  intro r hr x hx
  obtain ⟨k, _, rfl⟩ := List.mem_map.1 hr
  exact List.mem_of_mem_drop (List.mem_of_mem_take hx)
theorem row_of_cells {w : World} {b o n : Nat} {r : List Int} (hr : r.length = n) (hn : 0 < n) (h : ∀ j x, r[j]? = some x → w.cell? ⟨b, o + j, none⟩ = some (.int .i64 x)) : row? w b o n = some (ints r) := by
  have h0 := h (n - 1) _ (List.getElem?_eq_getElem (by omega))
  unfold World.cell? at h0
  unfold row?
  split at h0
  · rename_i cs t fr hg
    simp only at hg
    rw [hg]
    simp only at h0 ⊢
    have hsz := (Array.getElem?_eq_some_iff.1 h0).1
    rw [if_pos (by omega)]
    congr 1
    apply Array.ext
    · simp [ints_size]; omega
    · intro i h1 h2
      rw [ints_size] at h2
      have := h i _ (List.getElem?_eq_getElem h2)
      rw [cell_of_row w b (o + i) cs t fr hg] at this
      obtain ⟨h3, h4⟩ := Array.getElem?_eq_some_iff.1 this
      simp [ints, h4]
  · cases h0
theorem Reads.chunks {w : World} {B size : Nat} {A : Option Addr} {n : Nat} {xs : List Int} (h : Reads w B size A n (xs.map (Value.int .i64))) (hs : 0 < size) : Chunks w B size A (cutRows size xs n) := by
  have hl : xs.length = n * size := by have := h.1; simpa using this
  refine ⟨cutRows_size hl, fun h0 => ?_⟩
  rw [cutRows_len] at h0
  obtain ⟨b, o, e, hb, hc⟩ := h.2 h0
  refine ⟨b, o, e, hb, fun k r hr => ?_⟩
  have hk : k < n := by have := (List.getElem?_eq_some_iff.1 hr).1; rwa [cutRows_len] at this
  have hmem := cutRows_size hl r (List.mem_of_getElem? hr)
  refine row_of_cells hmem hs fun j x hx => ?_
  have hr' : (xs.drop (k * size)).take size = r := by simpa [cutRows, hk] using hr
  rw [← hr', List.getElem?_take] at hx
  split at hx
  · rw [List.getElem?_drop] at hx
    have := hc (k * size + j) (.int .i64 x) (by rw [List.getElem?_map, hx]; rfl)
    rwa [Nat.add_assoc]
  · cases hx

/-- are two lists of rows one? -/
def sameRows (xs ys : List (List Int)) : Bool := decide (xs = ys)

set_option maxRecDepth 100000 in
/-- make([]int, n) -/
theorem run_make_ints (n : Nat) (hn : n ≤ 1000000) (w : World) : (Instr.makeSlice 22 (.int .i64 (n : Int)) (.int .i64 (n : Int))).run Tryz.prog w = .ok (.slice (some ⟨w.heap.size, 0, none⟩) n n) (w.alloc (.cells (ints (List.replicate n 0)) 3)) := by
  obtain ⟨i, hi, hz, hs, hby⟩ : ∃ i, Tryz.prog.info? 3 = some i ∧ i.zero = some (.int .i64 0) ∧ i.size = 1 ∧ i.bytes = 8 := by
    have := int_info
    cases h : Tryz.prog.info? 3 with
    | none => rw [h] at this; cases this
    | some i => rw [h] at this; simp at this; exact ⟨i, rfl, this⟩
  rw [run_make w _ _ i _ Tryz.underlying22 hi hz .i64 .i64 n n (by omega) (by omega) (by rw [hby]; omega) (by omega)]
  congr 2
  have := toList_madeCells_one (.int .i64 0) ((n : Int).toNat * i.size)
  congr 1
  apply Array.ext'
  rw [ints_toList, show (Value.int .i64 0).cells = #[.int .i64 0] from rfl, this, hs]
  simp
/-- a block of ints of the call's own -/
theorem OwnI.of_blk {w : World} {B g : Nat} {zs : List Int} (h : Blk w g 3 (ints zs)) (hB : B ≤ g) (hn : zs.length ≤ maxLen) : OwnI w B (.slice (some ⟨g, 0, none⟩) zs.length zs.length) zs :=
  ⟨by simp, Or.inr ⟨g, zs.length, ints zs, rfl, hB, h, Nat.le_refl _, hn, by simp [ints_size], by rw [ints_toList]; exact List.take_of_length_le (by simp)⟩⟩

end Go.Proofs.YtpgcghnlepnoiaaGreatDoor

/-
  Slices of systems.
-/
namespace Go.Proofs.YtpgcghnlepnoiaaGreatDoor
open Go.RowKit

def zeroSys : Sys := ⟨⟨0, 0, 0⟩, 0, 0, 0, 0⟩
/-- a slice of systems -/
def SysIn (w : World) (B : Nat) (A : Option Addr) (ss : List Sys) : Prop := Chunks w B 7 A (ss.map Sys.list)
theorem SysIn.at_ {w : World} {B : Nat} {A : Option Addr} {ss : List Sys} (h : SysIn w B A ss) {k : Nat} (hk : k < ss.length) :
    ∃ b o, A = some ⟨b, o, none⟩ ∧ b < B ∧ row? w b (o + k * 7) 7 = some (ints (ss.getD k zeroSys).list) := by
  obtain ⟨b, o, e, hlt, hr⟩ := Chunks.at_ h (k := k) (by simpa using hk)
  refine ⟨b, o, e, hlt, ?_⟩
  rw [hr, List.getElem_map]
  simp [List.getD, List.getElem?_eq_getElem hk]
theorem SysIn.below {w w' : World} {B : Nat} {A : Option Addr} {ss : List Sys} (h : SysIn w B A ss) (hb : Below B w w') : SysIn w' B A ss := Chunks.below h hb

/-- seven ints as a system -/
def toSys (r : List Int) : Sys := ⟨⟨r.getD 0 0, r.getD 1 0, r.getD 2 0⟩, r.getD 3 0, r.getD 4 0, r.getD 5 0, r.getD 6 0⟩
theorem toSys_list {r : List Int} (h : r.length = 7) : (toSys r).list = r := by
  match r, h with
  | [_, _, _, _, _, _, _], _ => rfl

end Go.Proofs.YtpgcghnlepnoiaaGreatDoor

/-
  Contracts of the checks: isSet, CheckBeast, CheckQuery, system.Check, and mask.Matches at a query.
-/
namespace Go.Proofs.YtpgcghnlepnoiaaGreatDoor
open Go.RowKit

theorem isSet_any (m : Int) (w : World) : Calls Tryz.prog 99 #[.int .i64 m] w fun e w' => e = .returned (.bool (isSetB m)) ∧ w = w' := by
  by_cases h : 0 ≤ m
  · have hv : Hid (isSetB m = decide (m ≤ 255)) := by simp [Hid, isSetB, h]
    go_enter Tryz.func99, Tryz.ntmps99
    go_wp2
    go_ret
    exact ⟨ret_bool hv.out.symm, rfl⟩
  · have hv : Hid (isSetB m = false) := by simp [Hid, isSetB, h]
    have h' : m < 0 := by omega
    clear h
    go_enter Tryz.func99, Tryz.ntmps99
    go_wp2
    go_ret
    exact ⟨ret_bool hv.out.symm, rfl⟩

theorem checkBeast_any (b : Beast) (hb : b.v.length = 8) (w : World) :
    Calls Tryz.prog 74 #[.agg (ints b.list)] w fun e w' => e = .returned (.int .i64 (beastErr b)) ∧ Below w.heap.size w w' := by
  have i0 : (ints b.list)[0]? = some (.int .i64 b.k) := rfl
  have hrow : row? (w.alloc (.cells (ints b.list) 49)) w.heap.size 1 8 = some (ints b.v) := by
    rw [(Blk.new w 49 (ints b.list)).row_ints 1 8 (by simp [Beast.list, hb])]
    simp [Beast.list, ← hb]
  have HB := Lib.hid hb
  clear hb
  by_cases hs : isSetB b.k = true
  · have hk : 0 ≤ b.k ∧ b.k ≤ 255 := by simpa [isSetB] using hs
    have hK : Hid (((b.k.toNat : Nat) : Int) = b.k) := by unfold Hid; omega
    have hK2 : b.k.toNat < 256 := by omega
    have hEN := Lib.hid (beastErr_none b hs)
    have hEA := Lib.hid (fun j hj => beastErr_at b j hj hs)
    go_enter Tryz.func74, Tryz.ntmps74
    go_wp2_with fail
    refine (isSet_any b.k _).mono ?_
    rintro e w' ⟨rfl, rfl⟩
    rw [hs]
    clear hs
    go_wp2_with fail
    go_loop [11] (fun i => ∃ k : Nat, k ≤ 8 ∧ i = .int .i64 k ∧ ∀ j, j < k → valErr b j = 0) (fun i => 8 - (intOf i).toNat)
    case atStart => exact ⟨0, by omega, rfl, by omega⟩
    case round =>
      obtain ⟨k, hk8, rfl, h0⟩ := hrel
      have H0 := Lib.hid h0
      clear h0
      by_cases hlt : k < 8
      · have hidx := index_vals b.v k hlt HB.out
        have hv : valErr b k = if b.k.toNat.testBit k = false ∧ b.v.getD k 0 ≠ 0 then 4 else if b.v.getD k 0 < -1000000000 ∨ 1000000000 < b.v.getD k 0 then 1 else 0 := rfl
        have hbit := and_bit b.k.toNat k hK2 hlt
        rw [hK.out] at hbit
        generalize b.v.getD k 0 = x at *
        have hE := fun he => hEA.out k hlt H0.out he
        cases hB : b.k.toNat.testBit k with
        | false =>
          rw [hB] at hv hbit
          have h1 : (bits BinOp.and IntKind.i64 (b.k / 2 ^ k) 1 == 0) = true := by rw [hbit]; rfl
          by_cases hx : x = 0
          · have h2 : (x != 0) = false := by simp [hx]
            have h3 : ¬ x < -1000000000 := by omega
            have h4 : ¬ 1000000000 < x := by omega
            have HN : Hid (∀ j, j < k + 1 → valErr b j = 0) := by
              intro j hj
              by_cases hjk : j = k
              · subst hjk; rw [hv]; simp [hx]
              · exact H0.out j (by omega)
            clear hx hv hbit hB hE
            go_wp2
            go_round
            case rel => exact ⟨k + 1, by omega, by go_num, HN.out⟩
            case measure => simp [intOf]; omega
          · have h2 : (x != 0) = true := by simpa using hx
            have HN : Hid (beastErr b = 4) := by
              unfold Hid
              have : valErr b k = 4 := by rw [hv]; simp [hx]
              rw [hE (by omega), this]
            clear hx hv hbit hB hE
            go_wp2
            go_ret
            exact ⟨ret_int HN.out.symm, (Below.refl _ _).alloc (Nat.le_refl _) _⟩
        | true =>
          rw [hB] at hv hbit
          have h1 : (bits BinOp.and IntKind.i64 (b.k / 2 ^ k) 1 == 0) = false := by rw [hbit]; rfl
          by_cases hx : x < -1000000000
          · have HN : Hid (beastErr b = 1) := by
              unfold Hid
              have : valErr b k = 1 := by rw [hv]; simp [hx]
              rw [hE (by omega), this]
            clear hv hbit hB hE
            go_wp2
            go_ret
            exact ⟨ret_int HN.out.symm, (Below.refl _ _).alloc (Nat.le_refl _) _⟩
          · by_cases hx2 : 1000000000 < x
            · have HN : Hid (beastErr b = 1) := by
                unfold Hid
                have : valErr b k = 1 := by rw [hv]; simp [hx2]
                rw [hE (by omega), this]
              clear hv hbit hB hE
              go_wp2
              go_ret
              exact ⟨ret_int HN.out.symm, (Below.refl _ _).alloc (Nat.le_refl _) _⟩
            · have HN : Hid (∀ j, j < k + 1 → valErr b j = 0) := by
                intro j hj
                by_cases hjk : j = k
                · subst hjk; rw [hv]; simp [hx, hx2]
                · exact H0.out j (by omega)
              clear hv hbit hB hE
              go_wp2
              go_round
              case rel => exact ⟨k + 1, by omega, by go_num, HN.out⟩
              case measure => simp [intOf]; omega
      · have hk' : k = 8 := by omega
        subst hk'
        have HN := Lib.hid (hEN.out H0.out)
        go_wp2
        go_ret
        exact ⟨ret_int HN.out.symm, (Below.refl _ _).alloc (Nat.le_refl _) _⟩
  · have hs' : isSetB b.k = false := by simpa using hs
    have HN : Hid (beastErr b = 1) := by unfold Hid beastErr; rw [if_neg hs]
    go_enter Tryz.func74, Tryz.ntmps74
    go_wp2_with fail
    refine (isSet_any b.k _).mono ?_
    rintro e w' ⟨rfl, rfl⟩
    rw [hs']
    clear hs hs'
    go_wp2_with fail
    go_ret
    exact ⟨ret_int HN.out.symm, (Below.refl _ _).alloc (Nat.le_refl _) _⟩

end Go.Proofs.YtpgcghnlepnoiaaGreatDoor

/-
  Contracts of CheckQuery and system.Check.
-/
namespace Go.Proofs.YtpgcghnlepnoiaaGreatDoor
open Go.RowKit

theorem matchQ_any (m : Int) (q : Query) (w : World) :
    Calls Tryz.prog 64 #[.int .i64 m, .agg (ints q.list)] w fun e w' => e = .returned (.bool (matchQ m q)) ∧ Below w.heap.size w w' := matches_any m q.need q.nt q.any w

theorem checkQuery_any (q : Query) (w : World) :
    Calls Tryz.prog 61 #[.agg (ints q.list)] w fun e w' => e = .returned (.int .i64 (queryErr q)) ∧ Below w.heap.size w w' := by
  have i0 : (ints q.list)[0]? = some (.int .i64 q.need) := rfl
  have i1 : (ints q.list)[1]? = some (.int .i64 q.nt) := rfl
  have i2 : (ints q.list)[2]? = some (.int .i64 q.any) := rfl
  have hdef : Hid (queryErr q = if isSetB q.need && isSetB q.nt && isSetB q.any then 0 else 1) := rfl
  cases ha : isSetB q.need <;> cases hb : isSetB q.nt <;> cases hc : isSetB q.any
  all_goals
    have HD := Lib.hid hdef.out
    rw [ha, hb, hc] at HD
    go_enter Tryz.func61, Tryz.ntmps61
    go_wp2_with fail
    refine (isSet_any _ _).mono ?_
    rintro e w' ⟨rfl, rfl⟩
    rw [ha]
    go_wp2_with fail
    try (refine (isSet_any _ _).mono ?_; rintro e w' ⟨rfl, rfl⟩; rw [hb]; go_wp2_with fail)
    try (refine (isSet_any _ _).mono ?_; rintro e w' ⟨rfl, rfl⟩; rw [hc]; go_wp2_with fail)
    go_ret
    exact ⟨ret_int HD.out.symm, (Below.refl _ _).alloc (Nat.le_refl _) _⟩


end Go.Proofs.YtpgcghnlepnoiaaGreatDoor
