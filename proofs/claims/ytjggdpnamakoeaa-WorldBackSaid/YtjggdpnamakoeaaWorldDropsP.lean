/-
  The walk of the law WorldDrops.
-/
import Derived.Test.YtjggdpnamakoeaaWorldPutsP
import Derived.Deep.RegionHeld3
namespace Go.Proofs.Ytjggdpnamakoeaa
open Go.RowKit

theorem or_sub : ∀ (m k : Nat), m < 256 → k < 8 → m.testBit k = false → (m ||| 2 ^ k) - 2 ^ k = m ∧ (m ||| 2 ^ k).testBit k = true := by
  have h : ∀ (m : Fin 256) (k : Fin 8), m.val.testBit k.val = false → (m.val ||| 2 ^ k.val) - 2 ^ k.val = m.val ∧ (m.val ||| 2 ^ k.val).testBit k.val = true := by decide +kernel
  exact fun m k hm hk => h ⟨m, hm⟩ ⟨k, hk⟩
theorem set_same : ∀ (v : List Int) (k : Nat) (x : Int), v.getD k 0 = x → k < v.length → v.set k x = v
  | [], _, _, _, h => by simp at h
  | a :: v, 0, x, h, _ => by simp at h; simp [h]
  | a :: v, k + 1, x, h, hk => by
    rw [List.set_cons_succ, set_same v k x (by simpa using h) (by simpa using hk)]
theorem drop_put {b : Beast} (hb : beastErr b = 0) (h8 : b.v.length = 8) {k : Nat} (hk : k < 8) (ht : b.k.toNat.testBit k = false) (n : Int) : dropB (putB b k n) k = b := by
  obtain ⟨h1, h2⟩ := (beast_iff b).1 hb
  obtain ⟨h3, _⟩ := h2 k hk
  unfold dropB putB
  simp only [Int.toNat_natCast]
  rw [(or_sub b.k.toNat k (by omega) hk ht).1, List.set_set, set_same b.v k 0 (h3 ht) (by omega)]
  rw [show ((b.k.toNat : Nat) : Int) = b.k by omega]
section
variable {ls : List (Int × Bool)} {f : BF}
theorem getW_live (h : WOk ls f) {x : Int × Int} (hl : liveB ls x.1 x.2 = true) : getW ls f x = (beastOf f x.1, 0) ∧ beastErr (beastOf f x.1) = 0 ∧ (beastOf f x.1).v.length = 8 := by
  obtain ⟨h1, h2⟩ := h.bo _ _ _ (h.get hl)
  exact ⟨by unfold getW; rw [if_pos (by simpa using hl)], h1, h2⟩
theorem beastOf_upd (f : BF) (s g : Int) (b : Beast) : beastOf (updB f s (some (g, b))) s = b := by unfold beastOf updB; rw [if_pos rfl]; rfl
theorem dropW_has {x : Int × Int} {k : Nat} (hl : liveB ls x.1 x.2 = true) (hk : k < 8) (ht : (beastOf f x.1).k.toNat.testBit k = true) : dropW ls f x (k : Int) = (updB f x.1 (some (x.2, dropB (beastOf f x.1) k)), 0) := by
  unfold dropW
  rw [if_neg (by simp [hl]), if_neg (by omega), Int.toNat_natCast, if_neg (by simp [ht])]
theorem dropW_none {x : Int × Int} {k : Nat} (hl : liveB ls x.1 x.2 = true) (hk : k < 8) (ht : (beastOf f x.1).k.toNat.testBit k = false) : dropW ls f x (k : Int) = (f, 5) := by
  unfold dropW
  rw [if_neg (by simp [hl]), if_neg (by omega), Int.toNat_natCast, if_pos ht]
theorem dropW_dead {x : Int × Int} (k : Int) (hl : liveB ls x.1 x.2 = false) : dropW ls f x k = (f, 7) := by unfold dropW; rw [if_pos (by simp [hl])]
theorem putW_yes {x : Int × Int} {k : Nat} {n : Int} (hl : liveB ls x.1 x.2 = true) (hk : k < 8) (hn : -1000000000 ≤ n ∧ n ≤ 1000000000) : putW ls f x (k : Int) n = (updB f x.1 (some (x.2, putB (beastOf f x.1) k n)), 0) := by
  unfold putW
  rw [if_neg (by simp [hl]), if_neg (by omega), Int.toNat_natCast]
theorem putW_dead {x : Int × Int} (k n : Int) (hl : liveB ls x.1 x.2 = false) : putW ls f x k n = (f, 7) := by unfold putW; rw [if_pos (by simp [hl])]
theorem killW_dead {x : Int × Int} (hl : liveB ls x.1 x.2 = false) : killW ls f x = ((ls, f), 7) := by unfold killW; rw [if_neg (by simp [hl])]
theorem getW_dead {x : Int × Int} (hl : liveB ls x.1 x.2 = false) : getW ls f x = (zeroBst, 7) := by unfold getW; rw [if_neg (by simp [hl])]
theorem allW_pos (h : WOk ls f) {x : Int × Int} (hl : liveB ls x.1 x.2 = true) : 0 < (allW ls f).length := by
  have h1 := h.get hl
  have : (⟨x, beastOf f x.1⟩ : RowM) ∈ allW ls f := (mem_allW h).2 h1
  exact List.length_pos_of_mem this
theorem m8_kinds {b : Beast} (hb : beastErr b = 0) : m8 b.k = b.k.toNat := by
  have hbk := ((beast_iff b).1 hb).1
  unfold m8; rw [Int.emod_eq_of_lt hbk.1 (by omega)]
end
set_option maxHeartbeats 4000000 in
set_option maxRecDepth 100000 in
theorem worldDrops_any (A : Option Addr) (c : Nat) (os : List OpM) (x : Int × Int) (kind n : Int) (w : World) (H : OpsIn w w.heap.size A os) (hlen : os.length ≤ 1099511627776) (hb8 : ∀ o ∈ os, o.b.v.length = 8) :
    Calls Try.prog 4 #[.slice A os.length c, hdV x, .int .i64 kind, .int .i64 n] w fun e w' => e = .returned (.bool true) ∧ Below w.heap.size w w' := by
  have H := Lib.hid H
  have H8 := Lib.hid hb8
  clear hb8
  obtain ⟨x1, x2⟩ := x
  rw [hdV_eq]
  go_enter Try.func4, Try.ntmps4
  go_upto_region 1 with (fail)
  refine wp_abs (In (fun _ => False) w [Box w.heap.size 24 (ints [x1, x2])]) ((In.nil w _).alloc 24 (ints [x1, x2])) ?_
  generalize w.heap.size = hb
  intro w1 hI
  have HI0 := Lib.hid hI
  clear hI
  go_wp2_with fail
  refine (lived_any w1).mono ?_
  rintro e w2 ⟨rfl, hb2⟩
  have HI1 := Lib.hid (HI0.out.below hb2)
  clear hb2 HI0
  go_wp2_with fail
  refine (made_in H.out hlen H8.out HI1.out).mono ?_
  rintro e w3 ⟨p, rfl, hI⟩
  have HOK : Hid (WOk (madeW os).1 (madeW os).2) := madeW_ok H8.out
  generalize madeW os = st at *
  obtain ⟨ls, f⟩ := st
  have HI2 := Lib.hid hI
  have q1 : row? w3 hb 0 2 = some (ints [x1, x2]) := hI.swap.blk.row_all rfl
  clear hI HI1 H8 H hlen
  go_wp2_with fail
  refine (get_in HI2.out HOK.out x1 x2).mono ?_
  rintro e w4 ⟨rfl, hI⟩
  have HI3 := Lib.hid hI
  clear hI HI2 q1
  cases hlv : liveB ls x1 x2 with
  | false =>
    have hg : getW ls f (x1, x2) = (zeroBst, 7) := getW_dead hlv
    have HD : Hid (dropW ls f (x1, x2) kind = (f, 7)) := dropW_dead kind hlv
    rw [hg]
    simp only
    clear hg hlv
    go_upto_region 7 with (fail)
    refine wp_abs (In (fun _ => False) w [Box w4.heap.size 35 (ints zeroBst.list), WorldA p ls f, Box hb 24 (ints [x1, x2])]) (HI3.out.struct 35 [0, 0, 0, 0, 0, 0, 0, 0, 0] _ rfl) ?_
    generalize w4.heap.size = bb
    intro w5 hI5
    have q1 : row? w5 hb 0 2 = some (ints [x1, x2]) := hI5.third.blk.row_all rfl
    have HI5 := Lib.hid hI5.swap
    clear hI5 HI3
    go_wp2_with fail
    refine (drop_in HI5.out HOK.out x1 x2 kind).mono ?_
    rintro e w6 ⟨rfl, hI6⟩
    rw [HD.out]
    simp only
    have HB := Lib.hid hI6.below0
    clear hI6 HI5 q1
    go_wp2_with fail
    go_ret
    exact ⟨rfl, HB.out⟩
  | true =>
    obtain ⟨hg, hbe, h8⟩ := getW_live (x := (x1, x2)) HOK.out hlv
    have HBE := Lib.hid hbe
    have HLV := Lib.hid hlv
    have HRNG := Lib.hid ((beast_iff _).1 hbe)
    have HFB : Hid (f x1 = some (x2, beastOf f x1)) := HOK.out.get hlv
    rw [hg]
    simp only at h8 hbe HRNG HBE ⊢
    obtain ⟨b, hbd⟩ : ∃ b, beastOf f x1 = b := ⟨_, rfl⟩
    have HBD := Lib.hid hbd
    rw [hbd] at h8 hbe HRNG HBE HFB ⊢
    clear hg hlv hbd
    have hl9 : b.list.length = 9 := by simp [Beast.list, h8]
    go_upto_region 7 with (fail)
    refine wp_abs (In (fun _ => False) w [Box w4.heap.size 35 (ints b.list), WorldA p ls f, Box hb 24 (ints [x1, x2])]) (HI3.out.struct 35 [0, 0, 0, 0, 0, 0, 0, 0, 0] _ hl9) ?_
    generalize w4.heap.size = bb
    intro w5 hI5
    have q0 : w5.cell? ⟨bb, 0, none⟩ = some (.int .i64 b.k) := hI5.blk.cell 0
    have HI5 := Lib.hid hI5.swap
    clear hI5 HI3
    go_wp2_with fail
    refine (rest_any kind 8 w5 (by omega) (by omega)).mono ?_
    rintro e w' ⟨rfl, rfl⟩
    obtain ⟨k, hk8, hke⟩ : ∃ k : Nat, k < 8 ∧ kind % 8 = (k : Int) := ⟨(kind % 8).toNat, by omega, by omega⟩
    rw [hke]
    have hki8 : (k : Int) < 8 := by omega
    clear hke
    go_wp2_with fail
    refine (rest_any n 1000 w5 (by omega) (by omega)).mono ?_
    rintro e w' ⟨rfl, rfl⟩
    obtain ⟨m, hm, hme⟩ : ∃ m : Nat, m < 1000 ∧ n % 1000 = (m : Int) := ⟨(n % 1000).toNat, by omega, by omega⟩
    rw [hme]
    clear hme
    go_wp2_with fail
    refine (hasKind_any b.k k w5 hk8).mono ?_
    rintro e w' ⟨rfl, rfl⟩
    rw [m8_kinds HBE.out]
    cases ht : b.k.toNat.testBit k with
    | true =>
      have q1 : row? w5 hb 0 2 = some (ints [x1, x2]) := HI5.out.third.blk.row_all rfl
      have HDW : Hid (dropW ls f (x1, x2) (k : Int) = (updB f x1 (some (x2, dropB b k)), 0)) := by
        have := dropW_has (f := f) (x := (x1, x2)) HLV.out hk8 (by simp only; rw [HBD.out]; exact ht)
        simp only at this
        rw [HBD.out] at this
        exact this
      have hok1 := HOK.out.drop (x1, x2) (k : Int)
      rw [HDW.out] at hok1
      obtain ⟨f1, hf1⟩ : ∃ f1, updB f x1 (some (x2, dropB b k)) = f1 := ⟨_, rfl⟩
      have hbo1 : beastOf f1 x1 = dropB b k := by rw [← hf1]; exact beastOf_upd _ _ _ _
      rw [hf1] at HDW hok1
      have HOK1 := Lib.hid hok1
      clear hok1
      have hd8 := drop_err HBE.out h8 hk8 ht
      have HG1 : Hid (getW ls f1 (x1, x2) = (dropB b k, 0)) := by
        have := (getW_live (x := (x1, x2)) HOK1.out HLV.out).1
        simp only at this
        rw [hbo1] at this; exact this
      have ht1 : (dropB b k).k.toNat.testBit k = false := by
        have := sub_bits b.k.toNat k k (by have := HRNG.out.1; omega) hk8 hk8 ht
        simp only [dropB, Int.toNat_natCast]
        rw [this]; simp
      have hv1 : (dropB b k).v.getD k 0 = 0 := by
        unfold dropB
        rw [getD_set8 h8 hk8, if_pos rfl]
      have HDN : Hid (dropW ls f1 (x1, x2) (k : Int) = (f1, 5)) := dropW_none (f := f1) (x := (x1, x2)) HLV.out hk8 (by simp only; rw [hbo1]; exact ht1)
      obtain ⟨f3, hf3⟩ : ∃ f3, updB f1 x1 (some (x2, putB (dropB b k) k (b.v.getD k 0))) = f3 := ⟨_, rfl⟩
      have HPW : Hid (putW ls f1 (x1, x2) (k : Int) (b.v.getD k 0) = (f3, 0)) := by
        have := putW_yes (f := f1) (x := (x1, x2)) (n := b.v.getD k 0) HLV.out hk8 (HRNG.out.2 k hk8).2
        simp only at this
        rw [hbo1, hf3] at this; exact this
      have hok3 := HOK1.out.put (x1, x2) (k : Int) (b.v.getD k 0)
      rw [HPW.out] at hok3
      have HOK3 := Lib.hid hok3
      clear hok3
      have HLEN : Hid (0 < (allW ls f3).length) := allW_pos (x := (x1, x2)) HOK3.out HLV.out
      have hm81 : m8 (dropB b k).k = (dropB b k).k.toNat := m8_kinds hd8.1
      have hl91 : (dropB b k).list.length = 9 := by simp [Beast.list, hd8.2]
      have HN0 : Hid ((m8 (dropB b k).k).testBit k = false) := by unfold Hid; rw [hm81]; exact ht1
      have HGET : Hid ((ints (dropB b k).list)[1 + k]? = some (.int .i64 0)) := by
        have h1 : k < (dropB b k).v.length := by rw [hd8.2]; exact hk8
        unfold Hid
        rw [ints_get, Nat.add_comm]
        simp only [Beast.list, List.getElem?_cons_succ]
        rw [List.getD_eq_getElem?_getD, List.getElem?_eq_getElem h1] at hv1
        rw [List.getElem?_eq_getElem h1]
        simpa using hv1
      have HGB : Hid ((ints b.list)[1 + k]? = some (.int .i64 (b.v.getD k 0))) := by
        unfold Hid
        rw [ints_get, Nat.add_comm]
        simp only [Beast.list, List.getElem?_cons_succ]
        simp [List.getD, List.getElem?_eq_getElem (show k < b.v.length by omega)]
      clear hf1 hf3 hd8 ht1 hv1 hm81 hbo1 ht hbe HBE HRNG HFB HBD
      generalize dropB b k = b1 at *
      generalize b.v.getD k 0 = v0 at *
      go_wp2_with fail
      refine (drop_in HI5.out HOK.out x1 x2 (k : Int)).mono ?_
      rintro e w6 ⟨rfl, hI6⟩
      rw [HDW.out] at hI6 ⊢
      simp only at hI6 ⊢
      have HI6 := Lib.hid hI6
      have q2 : row? w6 hb 0 2 = some (ints [x1, x2]) := hI6.third.blk.row_all rfl
      clear hI6 HI5 q1 q0 HDW
      go_wp2_with fail
      refine (get_in HI6.out HOK1.out x1 x2).mono ?_
      rintro e w7 ⟨rfl, hI7⟩
      rw [HG1.out]
      simp only
      have HI7 := Lib.hid hI7
      clear hI7 HI6 q2 HG1
      go_upto_region 14 with (fail)
      refine wp_abs (In (fun _ => False) w [Box w7.heap.size 35 (ints b1.list), WorldA p ls f1, Box bb 35 (ints b.list), Box hb 24 (ints [x1, x2])]) (HI7.out.struct 35 [0, 0, 0, 0, 0, 0, 0, 0, 0] _ hl91) ?_
      generalize w7.heap.size = nb
      intro w8 hI8
      have HFS : Hid (∀ (W : World) (g : BF), In (fun _ => False) w [WorldA p ls g, Box nb 35 (ints b1.list), Box bb 35 (ints b.list), Box hb 24 (ints [x1, x2])] W →
          row? W hb 0 2 = some (ints [x1, x2]) ∧ W.cell? ⟨nb, 0, none⟩ = some (.int .i64 b1.k) ∧ W.cell? ⟨nb, 1 + k, none⟩ = some (.int .i64 0) ∧ W.cell? ⟨bb, 1 + k, none⟩ = some (.int .i64 v0)) := fun W g hW =>
        ⟨hW.fourth.blk.row_all rfl, hW.swap.blk.cell 0, (hW.swap.blk.cell (1 + k)).trans HGET.out, (hW.third.blk.cell (1 + k)).trans HGB.out⟩
      have HI8 := Lib.hid hI8.swap
      obtain ⟨r1, r2, r3, r4⟩ := HFS.out _ _ hI8.swap
      clear hI8 HI7 HGET HGB
      have hn0 : (m8 b1.k).testBit k = false := HN0.out
      go_region_held3 (fun W => row? W hb 0 2 = some (ints [x1, x2]) ∧ W.cell? ⟨nb, 0, none⟩ = some (.int .i64 b1.k) ∧ W.cell? ⟨nb, 1 + k, none⟩ = some (.int .i64 0) ∧ W.cell? ⟨bb, 1 + k, none⟩ = some (.int .i64 v0)) (refine ⟨?_, ?_, ?_, ?_⟩ <;> assumption)
        (first
          | (go_at_call 11; refine (all_in H4.out HOK3.out).mono ?_; rintro e w11 ⟨v5, rfl, hI11⟩; obtain ⟨A5, c5, rfl, _, _, _⟩ := hI11.rowsAt; have HB := Lib.hid hI11.below0; obtain ⟨s1, s2, s3, s4⟩ := HFS.out _ _ hI11.drop; have hpos : ((allW ls f3).length : Int) > 0 := by (have := HLEN.out; omega))
          | (go_at_call 12; refine (put_in H3.out HOK1.out x1 x2 (k : Int) v0).mono ?_; rintro e w10 ⟨rfl, hI10⟩; rw [HPW.out] at hI10 ⊢; simp only at hI10 ⊢; have H4 := Lib.hid hI10; obtain ⟨s1, s2, s3, s4⟩ := HFS.out _ _ hI10; clear hI10)
          | (go_at_call 16; refine (drop_in HI8.out.drew HOK1.out x1 x2 (k : Int)).mono ?_; rintro e w9 ⟨rfl, hI9⟩; rw [HDN.out] at hI9 ⊢; simp only at hI9 ⊢; have H3 := Lib.hid hI9; obtain ⟨s1, s2, s3, s4⟩ := HFS.out _ _ hI9; clear hI9)
          | (go_at_call 14; refine (hasKind_any b1.k k _ hk8).mono ?_; rintro e w' ⟨rfl, rfl⟩; rw [hn0]))
      all_goals
        have HP : Hid (decide (0 < (allW ls f3).length) = true) := decide_eq_true HLEN.out
        go_wp2_with fail
        go_ret
        exact ⟨ret_bool HP.out, HB.out⟩
    | false =>
      have q1 : row? w5 hb 0 2 = some (ints [x1, x2]) := HI5.out.third.blk.row_all rfl
      obtain ⟨f1, hf1⟩ : ∃ f1, updB f x1 (some (x2, putB b k (m : Int))) = f1 := ⟨_, rfl⟩
      have HPW : Hid (putW ls f (x1, x2) (k : Int) (m : Int) = (f1, 0)) := by
        have := putW_yes (f := f) (x := (x1, x2)) (n := (m : Int)) HLV.out hk8 (by omega)
        simp only at this
        rw [HBD.out, hf1] at this; exact this
      have hok1 := HOK.out.put (x1, x2) (k : Int) (m : Int)
      rw [HPW.out] at hok1
      have HOK1 := Lib.hid hok1
      clear hok1
      have hbo1 : beastOf f1 x1 = putB b k (m : Int) := by rw [← hf1]; exact beastOf_upd _ _ _ _
      have ht1 : (putB b k (m : Int)).k.toNat.testBit k = true := by
        simp only [putB, Int.toNat_natCast]
        exact (or_sub b.k.toNat k (by have := HRNG.out.1; omega) hk8 ht).2
      obtain ⟨f2, hf2⟩ : ∃ f2, updB f1 x1 (some (x2, dropB (putB b k (m : Int)) k)) = f2 := ⟨_, rfl⟩
      have HDW : Hid (dropW ls f1 (x1, x2) (k : Int) = (f2, 0)) := by
        have := dropW_has (f := f1) (x := (x1, x2)) HLV.out hk8 (by simp only; rw [hbo1]; exact ht1)
        simp only at this
        rw [hbo1, hf2] at this; exact this
      have hok2 := HOK1.out.drop (x1, x2) (k : Int)
      rw [HDW.out] at hok2
      have HOK2 := Lib.hid hok2
      clear hok2
      have HG2 : Hid (getW ls f2 (x1, x2) = (b, 0)) := by
        have := (getW_live (x := (x1, x2)) HOK2.out HLV.out).1
        simp only at this
        have e : beastOf f2 x1 = b := by rw [← hf2, beastOf_upd, drop_put HBE.out h8 hk8 ht]
        rw [e] at this
        exact this
      have heq : ∀ W, (binOp .eql 35 (.agg (ints b.list)) (.agg (ints b.list))).run Try.prog W = .ok (.bool true) W := fun W => by rw [eql_beast b.list b.list hl9 hl9 W]; simp
      have HEQ := Lib.hid heq
      clear hf1 hf2 ht1 hbo1 ht hbe HBE HRNG HFB HBD heq
      have HFS : Hid (∀ (W : World) (g : BF), In (fun _ => False) w [WorldA p ls g, Box bb 35 (ints b.list), Box hb 24 (ints [x1, x2])] W → row? W hb 0 2 = some (ints [x1, x2])) := fun W g hW => hW.third.blk.row_all rfl
      have hi0 : IntKind.i64.wrap (m : Int) = (m : Int) := IntWalk.i64_in _ (by omega)
      go_upto_region 15 with (fail)
      go_region_held3 (fun W => row? W hb 0 2 = some (ints [x1, x2])) (assumption)
        (first
          | (go_at_call 16; refine (drop_in H3.out HOK1.out x1 x2 (k : Int)).mono ?_; rintro e w9 ⟨rfl, hI9⟩; rw [HDW.out] at hI9 ⊢; simp only at hI9 ⊢; have H4 := Lib.hid hI9; have s1 := HFS.out _ _ hI9; clear hI9)
          | (go_at_call 12; refine (put_in HI5.out.drew HOK.out x1 x2 (k : Int) (m : Int)).mono ?_; rintro e w10 ⟨rfl, hI10⟩; rw [HPW.out] at hI10 ⊢; simp only at hI10 ⊢; have H3 := Lib.hid hI10; have s1 := HFS.out _ _ hI10; clear hI10))
      all_goals
        go_upto_region 16 with (fail)
        refine wp_abs (In (fun _ => False) w [WorldA p ls f2, Box bb 35 (ints b.list), Box hb 24 (ints [x1, x2])]) H4.out ?_
        intro w10 hI10
        have s2 := HFS.out _ _ hI10
        have HI10 := Lib.hid hI10
        clear hI10 H3 H4 HI5 q1 q0 HPW HDW
        go_wp2_with fail
        refine (get_in HI10.out HOK2.out x1 x2).mono ?_
        rintro e w11 ⟨rfl, hI11⟩
        rw [HG2.out]
        simp only
        have HI11 := Lib.hid hI11
        clear hI11 HI10 s2 HG2
        go_upto_region 17 with (fail)
        refine wp_abs (In (fun _ => False) w [Box w11.heap.size 35 (ints b.list), WorldA p ls f2, Box bb 35 (ints b.list), Box hb 24 (ints [x1, x2])]) (HI11.out.struct 35 [0, 0, 0, 0, 0, 0, 0, 0, 0] _ hl9) ?_
        generalize w11.heap.size = nb
        intro w12 hI12
        have r1 : row? w12 nb 0 9 = some (ints b.list) := hI12.blk.row_all hl9
        have r2 : row? w12 bb 0 9 = some (ints b.list) := hI12.third.blk.row_all hl9
        have HB := Lib.hid hI12.below0
        have heq := HEQ.out
        clear hI12 HI11
        generalize b.list = xs at *
        go_wp2_with fail
        go_ret
        exact ⟨rfl, HB.out⟩

end Go.Proofs.Ytjggdpnamakoeaa
