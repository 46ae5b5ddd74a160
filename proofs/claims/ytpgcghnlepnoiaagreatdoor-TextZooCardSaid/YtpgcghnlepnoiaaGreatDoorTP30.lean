/-
  Several texts in one (merged by a program of mine): TextBase, TextLine.
-/
import Derived.Test.YtpgcghnlepnoiaaGreatDoorTP29
import Derived.Lib.AppendIntMem
import Derived.Lib.ItoaLen
set_option linter.unusedVariables false
set_option linter.unusedSimpArgs false
set_option linter.unusedSectionVars false
/-
  What the text functions read of the library's variables; strings as lists of bytes.
-/
namespace Go.Proofs.YtpgcghnlepnoiaaGreatDoor
open Go.RowKit

def mkS (l : Bs) : ByteArray := ⟨l.toArray⟩
theorem mkS_data (l : Bs) : (mkS l).data.toList = l := rfl
theorem mkS_size (l : Bs) : (mkS l).size = l.length := by unfold mkS; rfl
theorem mkS_of (s : ByteArray) : mkS s.data.toList = s := by cases s; rfl
theorem mkS_append (a b : Bs) : mkS a ++ mkS b = mkS (a ++ b) := by
  apply ByteArray.ext
  rw [ByteArray.data_append]
  unfold mkS
  simp
theorem mkS_eq (a b : Bs) : ((mkS a).toList == (mkS b).toList) = decide (a = b) := by
  have h : ∀ l : Bs, (mkS l).toList = l := fun l => by rw [ByteArray.toList_eq]; rfl
  rw [h, h]
  by_cases e : a = b
  · subst e; simp
  · simp [e]
/-- what the library's variables hold -/
structure Globs (w : World) : Prop where
  tab : Lib.TabIs Tryz.prog w "internal/strconv.uint64pow10" .u64 Lib.pow10Tab
  syn : ∃ tp p, w.var? Tryz.prog "strconv.ErrSyntax" = some #[.iface tp p]
  rng : ∃ tp p, w.var? Tryz.prog "strconv.ErrRange" = some #[.iface tp p]
  max : ∃ m, w.cell? ⟨0, 0, none⟩ = some (.int .i64 m)
theorem var_below {P : Program} {w w' : World} {n : String} {cs : Array Value} (h : w.var? P n = some cs) (hb : Below w.heap.size w w') : w'.var? P n = some cs := by
  unfold World.var? at *
  cases hg : P.globalNamed n with
  | none => rw [hg] at h; cases h
  | some g =>
    rw [hg] at h
    simp only [Option.bind_some] at h ⊢
    cases hc : w.heap[g]? with
    | none => rw [hc] at h; cases h
    | some o =>
      have hlt := (Array.getElem?_eq_some_iff.1 hc).1
      rw [hb.block g hlt, hc]
      rw [hc] at h
      exact h
theorem Globs.below {w w' : World} (h : Globs w) (hb : Below w.heap.size w w') : Globs w' := by
  obtain ⟨tp, p, h1⟩ := h.syn
  obtain ⟨tq, q, h2⟩ := h.rng
  obtain ⟨m, h3⟩ := h.max
  exact ⟨var_below h.tab hb, ⟨tp, p, var_below h1 hb⟩, ⟨tq, q, var_below h2 hb⟩, ⟨m, (hb.cell (World.block_lt_of_cell? _ _ h3)).trans h3⟩⟩
theorem itoa_any (n : Int) (hf : Fits n) (w : World) (h : Globs w) :
    Calls Tryz.prog 23 #[.int .i64 n] w fun e w' => e = .returned (.string (mkS (Lib.itoa n))) ∧ Below w.heap.size w w' :=
  (Tryz.strconv_Itoa n hf.1 hf.2 w h.tab).mono fun e w' ⟨he, k, os, hw⟩ => ⟨he, by rw [hw]; exact Lib.below_grow _ w (Nat.le_refl _) k os⟩
theorem itoa_len {n : Int} (h : Fits n) : (Lib.itoa n).length ≤ 21 := Lib.itoa_length_le n h.1 h.2

end Go.Proofs.YtpgcghnlepnoiaaGreatDoor

/-
  The contract of text.line.
-/
namespace Go.Proofs.YtpgcghnlepnoiaaGreatDoor
open Go.RowKit

theorem nums_snoc (l : List Int) (n : Int) : nums (l ++ [n]) = nums l ++ 32 :: Lib.itoa n := by
  unfold nums; rw [List.flatMap_append]; simp
theorem nums_len : ∀ (l : List Int), (∀ x ∈ l, Fits x) → (nums l).length ≤ 22 * l.length
  | [], _ => by simp [nums]
  | x :: l, h => by
    have h1 := itoa_len (h x List.mem_cons_self)
    have h2 := nums_len l fun y hy => h y (List.mem_cons_of_mem _ hy)
    have e : nums (x :: l) = (32 :: Lib.itoa x) ++ nums l := rfl
    rw [e, List.length_append, List.length_cons, List.length_cons]
    omega
set_option maxHeartbeats 2000000 in
set_option maxRecDepth 100000 in
theorem line_any (word : Bs) (A : Option Addr) (c : Nat) (zs : List Int) (w : World) (hG : Globs w) (h : ReadsI w w.heap.size A zs.length zs) (hf : ∀ x ∈ zs, Fits x) (hl : zs.length ≤ 1000) (hw : word.length ≤ 1000) :
    Calls Tryz.prog 21 #[.string (mkS word), .slice A zs.length c] w fun e w' => e = .returned (.string (mkS (word ++ nums zs))) ∧ Below w.heap.size w w' := by
  have HG := Lib.hid hG
  have H := Lib.hid h
  have HF := Lib.hid hf
  clear hG h hf
  have hli : (zs.length : Int) ≤ 1000 := by omega
  go_enter Tryz.func21, Tryz.ntmps21
  go_wp2_with fail
  go_loopw [9, 0] (fun i s w' => ∃ k : Nat, k ≤ zs.length ∧ i = .int .i64 k ∧ s = .string (mkS (word ++ nums (zs.take k))) ∧ Below w.heap.size w w') (fun i _ _ => zs.length - (intOf i).toNat)
  case atStart => exact ⟨0, Nat.zero_le _, rfl, by simp [nums], Below.refl _ _⟩
  case round =>
    obtain ⟨k, hk, rfl, rfl, hb⟩ := hrel
    have HB := Lib.hid hb
    by_cases hlt : k < zs.length
    · have hki : (k : Int) < zs.length := by omega
      obtain ⟨g, o, rfl, hgl, hkl, hc⟩ := H.out.at_ hlt
      have hc' : wr.cell? ⟨g, o + k, none⟩ = some (.int .i64 zs[k]) := (HB.out.cell (p := ⟨g, o + k, none⟩) hgl).trans hc
      have HFX := Lib.hid (HF.out _ (List.getElem_mem hkl))
      have HST : Hid (word ++ nums (zs.take (k + 1)) = (word ++ nums (zs.take k)) ++ 32 :: Lib.itoa zs[k]) := by
        unfold Hid
        rw [List.take_succ_eq_append_getElem hkl, nums_snoc, List.append_assoc]
      have hlen : (word ++ nums (zs.take k)).length ≤ 1000 + 22 * 1000 := by
        have := nums_len (zs.take k) fun x hx => HF.out x (List.mem_of_mem_take hx)
        rw [List.length_take] at this
        rw [List.length_append]
        omega
      have HIT := Lib.hid (itoa_any zs[k] HFX.out wr (HG.out.below HB.out))
      have hil := itoa_len HFX.out
      generalize zs[k] = x at *
      generalize word ++ nums (zs.take k) = cur at *
      generalize Lib.itoa x = ix at *
      have hz1 : ¬ (9223372036854775807 < 1 + (mkS ix).size) := by rw [mkS_size]; omega
      have hz2 : ¬ (9223372036854775807 < (mkS cur).size + (1 + (mkS ix).size)) := by rw [mkS_size, mkS_size]; omega
      have HEQ : Hid (mkS cur ++ ((⟨#[32]⟩ : ByteArray) ++ mkS ix) = mkS (cur ++ 32 :: ix)) := by
        have e : (⟨#[32]⟩ : ByteArray) = mkS [32] := rfl
        unfold Hid
        rw [e, mkS_append, mkS_append]; rfl
      clear hb hc
      go_wp2_with fail
      refine HIT.out.mono ?_
      rintro e w2 ⟨rfl, hb2⟩
      have HB2 : Hid (Below w.heap.size w w2) := HB.out.trans (hb2.mono HB.out.size)
      clear hb2 HIT hc'
      go_wp2_with fail
      go_roundw
      case rel => exact ⟨k + 1, by omega, by go_num, by rw [HST.out, ← HEQ.out], HB2.out⟩
      case measure => simp [intOf]; omega
    · have hkn : k = zs.length := by omega
      subst hkn
      rw [List.take_length]
      go_wp2_with fail
      go_ret
      exact ⟨rfl, HB.out⟩

end Go.Proofs.YtpgcghnlepnoiaaGreatDoor
