/-
  Several texts in one (merged by a program of mine): Pure.
-/
import Derived.Test.YtpgcghnlepnoiaaGreatDoorTP5
import Derived.Shelf.Small.Bits
set_option linter.unusedVariables false
set_option linter.unusedSimpArgs false
set_option linter.unusedSectionVars false
/-
  Contracts of the small functions on numbers.
-/
namespace Go.Proofs.YtpgcghnlepnoiaaGreatDoor
open Go.RowKit

theorem tmod_neg (n m : Int) (h0 : 0 < m) (h : n.tmod m < 0) : n.tmod m + m = n % m := by
  have h3 := Int.tmod_eq_emod (a := n) (b := m)
  have h4 := Int.emod_nonneg n (b := m) (by omega)
  rw [h3] at h ⊢
  split at h
  · omega
  · rename_i hx; rw [if_neg hx]; omega
theorem tmod_pos (n m : Int) (h0 : 0 < m) (h : 0 ≤ n.tmod m) : n.tmod m = n % m := by
  have h3 := Int.tmod_eq_emod (a := n) (b := m)
  have h4 := Int.emod_lt_of_pos n h0
  rw [h3] at h ⊢
  split at h
  · rename_i hx; rw [if_pos hx]; omega
  · omega

/-- vivariumref.Rest -/
theorem rest_any (n m : Int) (w : World) (h0 : 0 < m) (hm : m ≤ 1000000000000) :
    Calls Tryz.prog 10 #[.int .i64 n, .int .i64 m] w fun e w' => e = .returned (.int .i64 (n % m)) ∧ w = w' := by
  have h1 : n.tmod m < m := by have := Int.tmod_lt_of_pos n h0; omega
  have h2 : -m < n.tmod m := by have := Int.lt_tmod_of_pos n h0; omega
  have h5 : Hid (n.tmod m < 0 → n.tmod m + m = n % m) := tmod_neg n m h0
  have h6 : Hid (0 ≤ n.tmod m → n.tmod m = n % m) := tmod_pos n m h0
  go_enter Tryz.func10, Tryz.ntmps10
  go_wp2
  · go_ret
    exact ⟨ret_int (h5.out (by assumption)), rfl⟩
  · go_ret
    exact ⟨ret_int (h6.out (by assumption)), rfl⟩

theorem matches_any (m a b c : Int) (w : World) :
    Calls Tryz.prog 64 #[.int .i64 m, .agg #[.int .i64 a, .int .i64 b, .int .i64 c]] w fun e w' => e = .returned (.bool (matchB m a b c)) ∧ Below w.heap.size w w' := by
  by_cases ha : bits .and .i64 m a = a
  · by_cases hb : bits .and .i64 m b = 0
    · by_cases hc : c = 0
      · have hv : Hid (matchB m a b c = true) := by simp [Hid, matchB, ha, hb, hc]
        subst hc
        go_enter Tryz.func64, Tryz.ntmps64
        go_wp2
        all_goals go_ret
        all_goals exact ⟨ret_bool hv.out.symm, (Below.refl _ _).alloc (Nat.le_refl _) _⟩
      · have hv : Hid (matchB m a b c = (c == 0 || bits .and .i64 m c != 0)) := by simp [Hid, matchB, ha, hb]
        go_enter Tryz.func64, Tryz.ntmps64
        go_wp2
        all_goals go_ret
        all_goals exact ⟨ret_bool hv.out.symm, (Below.refl _ _).alloc (Nat.le_refl _) _⟩
    · have hv : Hid (matchB m a b c = false) := by simp [Hid, matchB, ha, hb]
      go_enter Tryz.func64, Tryz.ntmps64
      go_wp2
      all_goals go_ret
      all_goals exact ⟨ret_bool hv.out.symm, (Below.refl _ _).alloc (Nat.le_refl _) _⟩
  · have hv : Hid (matchB m a b c = false) := by simp [Hid, matchB, ha]
    go_enter Tryz.func64, Tryz.ntmps64
    go_wp2
    all_goals go_ret
    all_goals exact ⟨ret_bool hv.out.symm, (Below.refl _ _).alloc (Nat.le_refl _) _⟩

theorem ntz_size : Lib.ntz8tab.size = 256 := by decide +kernel
theorem ntz_tab : ∀ b : Fin 256, (Lib.ntz8tab[b.val]'(by rw [ntz_size]; exact b.isLt)).toNat = tz8 b.val := by decide +kernel
theorem tz8_le : ∀ b : Fin 256, tz8 b.val ≤ 8 := by decide +kernel

theorem tz_any (b : Nat) (w : World) (hb : b < 256) :
    Calls Tryz.prog 46 #[.int .u8 b] w fun e w' => e = .returned (.int .i64 (tz8 b)) ∧ w = w' := by
  have hs : b < Lib.ntz8tab.size := by rw [ntz_size]; exact hb
  have h : Hid (Lib.ntz8tab[b].toNat = tz8 b ∧ tz8 b ≤ 8) := ⟨ntz_tab ⟨b, hb⟩, tz8_le ⟨b, hb⟩⟩
  clear hb
  go_enter Tryz.func46, Tryz.ntmps46
  go_wp2
  go_ret
  refine ⟨ret_int ?_, rfl⟩
  rw [h.out.1]
  have := h.out.2
  unfold wrap64
  omega

theorem pop_tab : ∀ b : Fin 256, (Lib.pop8tab[b.val]'(by rw [Lib.pop8tab_size]; exact b.isLt)).toNat = (kinds b.val).length := by decide +kernel


/-- the lowest eight bits of a number -/
def m8 (m : Int) : Nat := (m % 256).toNat
theorem m8_lt (m : Int) : m8 m < 256 := by unfold m8; omega
theorem m8_cast (m : Int) : ((m8 m : Nat) : Int) = m % 256 := by unfold m8; omega




theorem u8_low : ∀ n : Fin 256, n.val ≠ 0 → bits .and .u8 (n.val : Int) ((n.val : Int) - 1) = ((low n.val : Nat) : Int) := by decide +kernel

/-- the kinds of a set, as Go's ints -/
def kindsI (m : Nat) : List Int := (kinds m).map Int.ofNat
theorem kindsI_len (m : Nat) : (kindsI m).length ≤ 8 := by unfold kindsI; rw [List.length_map]; exact kinds_len m

theorem list_any (m : Int) (w : World) : Calls Tryz.prog 22 #[.int .i64 m] w (IsInts w (kindsI (m8 m))) := by
  have hm : Hid (((m8 m : Nat) : Int) = m % 256) := m8_cast m
  have hlt := m8_lt m
  go_enter Tryz.func22, Tryz.ntmps22
  go_wp2_with fail
  go_loopw [3, 4] (fun out b wr => ∃ (n : Nat) (xs : List Int), n < 256 ∧ b = .int .u8 n ∧ xs ++ kindsI n = kindsI (m8 m) ∧ OwnI wr w.heap.size out xs ∧ Below w.heap.size w wr) (fun _ b _ => (intOf b).toNat)
  case atStart =>
    exact ⟨m8 m, [], hlt, by rw [hm.out], rfl, OwnI.nil _ _, Below.refl _ _⟩
  case round =>
    obtain ⟨n, xs, hn, rfl, hxs, hown, hb⟩ := hrel
    have hxl : xs.length + (kindsI n).length ≤ 8 := by
      have := congrArg List.length hxs
      have h2 := kindsI_len (m8 m)
      simp at this; omega
    have HX := Lib.hid hxs
    clear hxs
    by_cases h0 : n = 0
    · subst h0
      go_wp2_with fail
      go_ret
      have hxs := HX.out
      rw [show kindsI 0 = [] from by rw [kindsI, kinds_zero]; rfl, List.append_nil] at hxs
      subst hxs
      exact ⟨_, rfl, hown, hb⟩
    · have hne : ((n : Int) == 0) = false := by simp; omega
      have hu := Lib.hid (u8_low ⟨n, hn⟩ h0)
      obtain ⟨hk, hl⟩ := kinds_step n hn h0
      have HK := Lib.hid hk
      clear hk
      go_wp2_with fail
      refine (tz_any n _ hn).mono ?_
      rintro e w' ⟨rfl, rfl⟩
      go_wp2_with (at_builtin; refine wpList_append_i rfl _ _ rfl w.heap.size _ xs rfl hown _ rfl ?_ ?_ ?_)
      case refine_1 => omega
      case refine_2 => exact hb.size
      intro v' w1 hown1 _ hb1
      go_wp2_with fail
      go_roundw
      case rel =>
        refine ⟨low n, xs ++ [Int.ofNat (tz8 n)], by omega, ?_, ?_, hown1, hb.trans hb1⟩
        · rw [hu.out]
        · rw [← HX.out]; show _ = xs ++ (kinds n).map Int.ofNat; rw [HK.out]; simp [kindsI]
      case measure => rw [hu.out]; simp [intOf]; omega



/-- vivariumref.Eq at ints -/
theorem eqI_any (A A' : Option Addr) (n n' c c' : Nat) (zs ys : List Int) (w : World) (B B' : Nat) (h : ReadsI w B A n zs) (h' : ReadsI w B' A' n' ys) (hn : n ≤ maxLen) (hn' : n' ≤ maxLen) :
    Calls Tryz.prog 27 #[.slice A n c, .slice A' n' c'] w fun e w' => e = .returned (.bool (decide (zs = ys))) ∧ w = w' := by
  unfold maxLen at hn hn'
  have hl := Lib.hid h.len
  have hl' := Lib.hid h'.len
  have H := Lib.hid h
  have H' := Lib.hid h'
  clear h h'
  by_cases hnn : n = n'
  · subst hnn
    go_enter Tryz.func27, Tryz.ntmps27
    go_wp2_with fail
    go_loop [14] (fun i => ∃ k : Nat, k ≤ n ∧ i = .int .i64 k ∧ zs.take k = ys.take k) (fun i => n - (intOf i).toNat)
    case atStart => exact ⟨0, Nat.zero_le _, rfl, by simp⟩
    case round =>
      obtain ⟨k, hk, rfl, hno⟩ := hrel
      have HN := Lib.hid hno
      clear hno
      by_cases hlt : k < n
      · obtain ⟨b, o, rfl, _, hkl, hc⟩ := H.out.at_ hlt
        obtain ⟨b', o', rfl, _, hkl', hc'⟩ := H'.out.at_ hlt
        by_cases hx : zs[k] = ys[k]
        · have hxe : (zs[k] != ys[k]) = false := by simpa using hx
          have HF : Hid (zs.take (k + 1) = ys.take (k + 1)) := by unfold Hid; rw [List.take_succ_eq_append_getElem hkl, List.take_succ_eq_append_getElem hkl', HN.out, hx]
          clear hx
          go_wp2
          go_round
          case rel => exact ⟨k + 1, by omega, by go_num, HF.out⟩
          case measure => simp [intOf]; omega
        · have hxe : (zs[k] != ys[k]) = true := by simpa using hx
          have HF : Hid (decide (zs = ys) = false) := by unfold Hid; rw [decide_eq_false_iff_not]; rintro rfl; exact hx rfl
          clear hx
          go_wp2
          go_ret
          exact ⟨ret_bool HF.out.symm, rfl⟩
      · have hk' : k = n := by omega
        subst hk'
        have HF : Hid (decide (zs = ys) = true) := by
          have h1 := HN.out
          rw [List.take_of_length_le (by rw [hl.out]; omega), List.take_of_length_le (by rw [hl'.out]; omega)] at h1
          unfold Hid; rw [h1]; simp
        go_wp2
        go_ret
        exact ⟨ret_bool HF.out.symm, rfl⟩
  · have hne : ((n : Int) != n') = true := by simp; omega
    have HF : Hid (decide (zs = ys) = false) := by unfold Hid; rw [decide_eq_false_iff_not]; rintro rfl; exact hnn (hl.out.symm.trans hl'.out)
    go_enter Tryz.func27, Tryz.ntmps27
    go_wp2
    go_ret
    exact ⟨ret_bool HF.out.symm, rfl⟩


end Go.Proofs.YtpgcghnlepnoiaaGreatDoor
