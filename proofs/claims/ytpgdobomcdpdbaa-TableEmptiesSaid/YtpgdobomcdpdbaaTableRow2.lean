/-
  The contracts of Table.Handles, of and Column.
-/
import Derived.Test.YtpgdobomcdpdbaaTableRow
namespace Go.Proofs.Ytpgdobomcdpdbaa
open Go.RowKit

theorem own_reads {w : World} {B : Nat} {e : TypeId} {size n c : Nat} {A : Option Addr} {xs : List Value} (h : w.ownsRow B e size (.slice A n c) n xs) : Reads w w.heap.size size A n xs ∧ ((A = none ∧ n = 0 ∧ c = 0) ∨ ∃ b o, A = some ⟨b, o, none⟩) := by
  refine ⟨Reads.of_own h, ?_⟩
  rcases h.2 with ⟨e1, h0⟩ | ⟨g, cap, cur, e1, _⟩
  · injection e1 with e1 e2 e3; exact Or.inl ⟨e1, h0, e3⟩
  · injection e1 with e1 e2 e3; exact Or.inr ⟨g, 0, e1⟩
theorem one_hC (hs : List (Int × Int)) : ∀ u ∈ hs.flatMap hC, u.oneCell' = true := by
  intro u hu
  obtain ⟨h, _, hu⟩ := List.mem_flatMap.1 hu
  simp [hC] at hu
  rcases hu with rfl | rfl <;> rfl
theorem one_int (xs : List Int) : ∀ u ∈ xs.flatMap intC, u.oneCell' = true := by
  intro u hu
  obtain ⟨h, _, hu⟩ := List.mem_flatMap.1 hu
  simp [intC] at hu
  rw [hu]; rfl

theorem thandles_any {p : Nat} {K : Int} {rows : List RowM} {hv : Value} {mb : Nat} {cb : Nat → Nat} (w : World) (h : TblSee w p K rows hv mb cb) (hl : rows.length ≤ 100000) :
    Calls Try.prog 17 #[.pointer (some ⟨p, 0, none⟩)] w fun e w' => ∃ v, e = .returned v ∧ w'.ownsRow w.heap.size 36 2 v rows.length (rows.flatMap fun r => hC r.h) ∧ Below w.heap.size w w' := by
  obtain ⟨A, c, rfl, _, _, _⟩ := own_form h.o
  have c1 : w.cell? ⟨p, 1, none⟩ = some (.slice A rows.length c) := h.b.cell 1
  have HO := Lib.hid (own_reads h.o)
  have H1 : Hid (∀ u ∈ rows.flatMap (fun r => hC r.h), u.oneCell' = true) := by
    intro u hu
    obtain ⟨r, hr, hu⟩ := List.mem_flatMap.1 hu
    exact one_hC [r.h] u (by simpa using hu)
  clear h
  go_enter Try.func17, Try.ntmps17
  go_wp2_with fail
  refine (cloneHandle_any A rows.length c _ w w.heap.size HO.out.1 H1.out HO.out.2 (by omega)).mono ?_
  rintro e w1 ⟨v, rfl, ho, hb⟩
  have HR := Lib.hid ho
  have HB := Lib.hid hb
  clear ho hb
  go_wp2_with fail
  go_ret
  exact ⟨v, rfl, HR.out, HB.out⟩

theorem zero_col (w : World) : (zeroValue 91).run Try.prog w = .ok (.pointer none) w := by kernel_rfl
def ofR (K kind : Int) : Option Nat × Int := if 0 ≤ kind ∧ kind < 8 then if kind.toNat ∈ tks K then (some kind.toNat, 0) else (none, 5) else (none, 1)
def colPtr (cb : Nat → Nat) : Option Nat → Value
  | some k => ptrV (cb k)
  | none => .pointer none
theorem of_cases (K kind : Int) : (ofR K kind = (none, 1) ∧ ¬ (0 ≤ kind ∧ kind < 8)) ∨ ∃ k : Nat, kind = k ∧ k < 8 ∧ ((k ∉ tks K ∧ ofR K kind = (none, 5)) ∨ (k ∈ tks K ∧ ofR K kind = (some k, 0))) := by
  unfold ofR
  by_cases h : 0 ≤ kind ∧ kind < 8
  · right
    refine ⟨kind.toNat, by omega, by omega, ?_⟩
    by_cases hk : kind.toNat ∈ tks K
    · right; exact ⟨hk, by rw [if_pos h, if_pos hk]⟩
    · left; exact ⟨hk, by rw [if_pos h, if_neg hk]⟩
  · left; exact ⟨by rw [if_neg h], h⟩
theorem col_get {K : Int} {cb : Nat → Nat} (k : Nat) : mget ((tks K).map fun k : Nat => ((k : Int), cb k)) (k : Int) = if k ∈ tks K then some (cb k) else none := by
  have hn : (mkeys ((tks K).map fun k : Nat => ((k : Int), cb k))).Nodup := by
    unfold mkeys
    rw [List.map_map]
    exact List.Pairwise.map _ (fun a b (h : a ≠ b) e => h (by have e : (a : Int) = b := e; omega)) (tks_nodup K)
  by_cases hk : k ∈ tks K
  · rw [if_pos hk]
    exact mget_of_mem hn (List.mem_map.2 ⟨k, hk, rfl⟩)
  · rw [if_neg hk, mget_none]
    intro hm
    obtain ⟨x, hx, e⟩ := List.mem_map.1 hm
    obtain ⟨y, hy, rfl⟩ := List.mem_map.1 hx
    exact hk (by have : y = k := by simp only at e; omega
                 rw [← this]; exact hy)

theorem tof_any {p : Nat} {K : Int} {rows : List RowM} {hv : Value} {mb : Nat} {cb : Nat → Nat} (kind : Int) (w : World) (h : TblSee w p K rows hv mb cb) :
    Calls Try.prog 46 #[.pointer (some ⟨p, 0, none⟩), .int .i64 kind] w fun e w' => e = .returned (.tuple #[colPtr cb (ofR K kind).1, .int .i64 (ofR K kind).2]) ∧ w = w' := by
  have c1 : w.cell? ⟨p, 2, none⟩ = some (.map (some mb)) := h.b.cell 2
  have HM := Lib.hid h.m
  clear h
  rcases of_cases K kind with ⟨hR, hn⟩ | ⟨k, rfl, hk, ⟨hm, hR⟩ | ⟨hm, hR⟩⟩
  · have HR := Lib.hid hR
    clear hR
    by_cases h0 : kind < 0
    · have hb : decide (kind < 0) = true := by simpa using h0
      clear hn
      go_enter Try.func46, Try.ntmps46
      go_wp2_with fail
      go_ret2
      exact ⟨by rw [HR.out]; rfl, rfl⟩
    · have hb : decide (kind < 0) = false := by simpa using h0
      have h8 : 8 ≤ kind := by omega
      have hb2 : decide (8 ≤ kind) = true := by simpa using h8
      clear hn
      go_enter Try.func46, Try.ntmps46
      go_wp2_with fail
      go_ret2
      exact ⟨by rw [HR.out]; rfl, rfl⟩
  · have HR := Lib.hid hR
    have HG : Hid (mget ((tks K).map fun k : Nat => ((k : Int), cb k)) (k : Int) = none) := by unfold Hid; rw [col_get, if_neg hm]
    have hki : (k : Int) < 8 := by omega
    have hb : decide ((k : Int) < 0) = false := by simp
    have hb2 : decide (8 ≤ (k : Int)) = false := by simp; omega
    clear hR hm
    go_enter Try.func46, Try.ntmps46
    go_wp2_with (at_lookup; go_loud (refine wpList_look keyI rfl _ _ 88 91 true rfl Try.underlying88 (.pointer none) (zero_col _) mb _ rfl HM.out (k : Int) rfl (wf_small (by omega)) (.tuple #[.pointer none, .bool false]) (by rw [HG.out]; rfl) ?_))
    go_ret2
    exact ⟨by rw [HR.out]; rfl, rfl⟩
  · have HR := Lib.hid hR
    have HG : Hid (mget ((tks K).map fun k : Nat => ((k : Int), cb k)) (k : Int) = some (cb k)) := by unfold Hid; rw [col_get, if_pos hm]
    have hki : (k : Int) < 8 := by omega
    have hb : decide ((k : Int) < 0) = false := by simp
    have hb2 : decide (8 ≤ (k : Int)) = false := by simp; omega
    clear hR hm
    go_enter Try.func46, Try.ntmps46
    go_wp2_with (at_lookup; go_loud (refine wpList_look keyI rfl _ _ 88 91 true rfl Try.underlying88 (.pointer none) (zero_col _) mb _ rfl HM.out (k : Int) rfl (wf_small (by omega)) (.tuple #[.pointer (some ⟨cb k, 0, none⟩), .bool true]) (by rw [HG.out]; rfl) ?_))
    go_ret2
    exact ⟨by rw [HR.out]; rfl, rfl⟩

/-- what Column comes to -/
def ColEnd (w : World) (K : Int) (rows : List RowM) (kind : Int) (e : Ending) (w' : World) : Prop :=
  Below w.heap.size w w' ∧ match ofR K kind with
    | (some k, _) => ∃ v, e = .returned (.tuple #[v, .int .i64 0]) ∧ OwnI w' w.heap.size v (colOf rows k)
    | (none, n) => e = .returned (.tuple #[.slice none 0 0, .int .i64 n])
theorem tcolumn_any {p : Nat} {K : Int} {rows : List RowM} {hv : Value} {mb : Nat} {cb : Nat → Nat} (kind : Int) (w : World) (h : TblSee w p K rows hv mb cb) (hl : rows.length ≤ 100000) :
    Calls Try.prog 18 #[.pointer (some ⟨p, 0, none⟩), .int .i64 kind] w (ColEnd w K rows kind) := by
  have HS := Lib.hid h
  clear h
  go_enter Try.func18, Try.ntmps18
  go_wp2_with fail
  refine (tof_any kind w HS.out).mono ?_
  rintro e w' ⟨rfl, rfl⟩
  rcases of_cases K kind with ⟨hR, _⟩ | ⟨k, rfl, hk, ⟨_, hR⟩ | ⟨hm, hR⟩⟩
  · have HR := Lib.hid hR
    rw [hR]
    clear hR
    go_wp2_with fail
    go_ret2
    unfold ColEnd
    rw [HR.out]
    exact ⟨Below.refl _ _, rfl⟩
  · have HR := Lib.hid hR
    rw [hR]
    clear hR
    go_wp2_with fail
    go_ret2
    unfold ColEnd
    rw [HR.out]
    exact ⟨Below.refl _ _, rfl⟩
  · have HR := Lib.hid hR
    rw [hR]
    obtain ⟨F1, hC⟩ := HS.out.c k hm
    obtain ⟨A3, c3, f1, f2, f3, f4, f5, f6, f7, f8⟩ := hC.slice
    have hcl : (colOf rows k).length = rows.length := by unfold colOf; rw [List.length_map]
    have HO := Lib.hid (own_reads f5)
    have hll : (colOf rows k).length ≤ 1000000 := by omega
    clear hR f2 f3 f4 f5 f6 f7 f8 hC hcl
    simp only [colPtr]
    go_wp2_with fail
    refine (cloneInt_any A3 (colOf rows k).length c3 _ w w.heap.size HO.out.1 (one_int _) HO.out.2 hll).mono ?_
    rintro e w1 ⟨v, rfl, ho, hb⟩
    have HB := Lib.hid hb
    have HV : Hid (OwnI w1 w.heap.size v (colOf rows k)) := by
      have : (colOf rows k).flatMap intC = (colOf rows k).map (Value.int .i64) := by
        generalize colOf rows k = xs
        induction xs with
        | nil => rfl
        | cons a l ih => rw [List.flatMap_cons, ih]; rfl
      rw [this] at ho; exact ho
    clear ho hb
    go_wp2_with fail
    go_ret2
    unfold ColEnd
    rw [HR.out]
    exact ⟨HB.out, v, rfl, HV.out⟩

end Go.Proofs.Ytpgdobomcdpdbaa
