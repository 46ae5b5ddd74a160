/-
  The closed fact 'slotted', and the walk of the law SlotsBack.
-/
import Derived.Test.YtmocljblfccglaaSlotMath
import Derived.Test.YtmocljblfccglaaEqHandle
import Derived.Test.YtmocljblfccglaaPure
namespace Go.Proofs.Ytmocljblfccglaa
open Go.RowKit

def SlotsA (p : Nat) (ls : List (Int × Bool)) : Assn := Col 76 78 2 slotC p ls

theorem slotted_any (w : World) : Calls Try.prog 21 #[] w fun e w' => e = .returned (.bool true) ∧ Below w.heap.size w w' := by
  have he0 : ∀ W, (binOp .eql 42 (.agg (ints [0, 0])) (.agg #[.int .i64 0, .int .i64 0])).run Try.prog W = .ok (.bool true) W := fun W => eql_handle [0, 0] [0, 0] rfl rfl W
  have he1 : ∀ W, (binOp .eql 42 (.agg (ints [0, 1])) (.agg #[.int .i64 0, .int .i64 1])).run Try.prog W = .ok (.bool true) W := fun W => eql_handle [0, 1] [0, 1] rfl rfl W
  go_enter Try.func21, Try.ntmps21
  go_wp2_with fail
  refine (new_any w).mono ?_
  rintro e w1 ⟨rfl, h1, hb1⟩
  have hI : In (fun _ => False) w [SlotsA w.heap.size []] w1 := (In.nil w _).new hb1 (h1.mono fun k _ hk => by rcases hk with hk | hk; exact hk.elim; exact hk.1)
  generalize w.heap.size = p at hI ⊢
  have HI := Lib.hid hI
  clear h1 hb1 hI
  go_wp2_with fail
  obtain ⟨F1, hA, hF, hback⟩ := HI.out.open_
  refine (take_any p [] F1 w1 hA (by simp)).mono ?_
  rintro e w2 ⟨rfl, h2, ho2⟩
  have HI2 := Lib.hid (hback (A' := SlotsA p _) h2 ho2)
  rw [show takeR [] = ([(0, true)], (0, 0), 0) from by decide] at HI2 ⊢
  clear HI hA hF hback h2 ho2
  go_upto_region 5 with (fail)
  refine wp_abs (In (fun _ => False) w [Box w2.heap.size 42 (ints [0, 0]), SlotsA p [(0, true)]]) (HI2.out.struct 42 [0, 0] [0, 0] rfl) ?_
  generalize w2.heap.size = q
  intro w3 hI
  have hr := hI.blk.row_all (n := 2) rfl
  have HI := Lib.hid hI.swap
  clear HI2 hI
  go_wp2_with fail
  obtain ⟨F1, hA, hF, hback⟩ := HI.out.open_
  refine (free_any p _ F1 0 0 w3 hA (by intro x hx; rw [List.mem_singleton.1 hx]; decide)).mono ?_
  rintro e w4 ⟨rfl, h4, ho4⟩
  have HI4 := Lib.hid (hback (A' := SlotsA p _) (SlotsAt.mono h4 fun k _ h => Or.inl h) ho4)
  rw [show freeR [(0, true)] 0 0 = ([(1, false)], 0) from by decide] at HI4 ⊢
  clear HI hA hF hback h4 ho4 hr
  go_wp2_with fail
  obtain ⟨F1, hA, hF, hback⟩ := HI4.out.open_
  refine (take_any p _ F1 w4 hA (by decide)).mono ?_
  rintro e w5 ⟨rfl, h5, ho5⟩
  have HI5 := Lib.hid (hback (A' := SlotsA p _) h5 ho5)
  rw [show takeR [(1, false)] = ([(1, true)], (0, 1), 0) from by decide] at HI5 ⊢
  clear HI4 hA hF hback h5 ho5
  go_upto_region 7 with (fail)
  refine wp_abs (In (fun _ => False) w [Box w5.heap.size 42 (ints [0, 1]), SlotsA p [(1, true)], Box q 42 (ints [0, 0])]) (HI5.out.struct 42 [0, 0] [0, 1] rfl) ?_
  generalize w5.heap.size = r
  intro w6 hI
  have hr := hI.blk.row_all (n := 2) rfl
  have hq := hI.third.blk.row_all (n := 2) rfl
  have HB := Lib.hid hI.below0
  clear HI5 hI
  go_wp2_with fail
  go_ret
  exact ⟨rfl, HB.out⟩

/-- All, over a thing among others -/
theorem all_in {w0 w : World} {p : Nat} {ls : List (Int × Bool)} {l : List Assn} (h : In (fun _ => False) w0 (SlotsA p ls :: l) w) (hl : ls.length ≤ 60) :
    Calls Try.prog 23 #[.pointer (some ⟨p, 0, none⟩)] w fun e w' => ∃ v, e = .returned v ∧ OwnH w' w.heap.size v (liveHs ls) ∧ Below w.heap.size w w' ∧ In (fun _ => False) w0 (SlotsA p ls :: l) w' := by
  obtain ⟨F1, hA⟩ := h.head
  exact (all_any p ls F1 w hA hl).mono fun e w' ⟨v, h1, h2, h3⟩ => ⟨v, h1, h2, h3, h.below h3⟩
theorem take_in {w0 w : World} {p : Nat} {ls : List (Int × Bool)} {l : List Assn} (h : In (fun _ => False) w0 (SlotsA p ls :: l) w) (hl : ls.length ≤ 60) :
    Calls Try.prog 24 #[.pointer (some ⟨p, 0, none⟩)] w fun e w' => e = .returned (.tuple #[.agg (ints [(takeR ls).2.1.1, (takeR ls).2.1.2]), .int .i64 (takeR ls).2.2]) ∧ In (fun _ => False) w0 (SlotsA p (takeR ls).1 :: l) w' := by
  obtain ⟨F1, hA, hF, hb⟩ := h.open_
  exact (take_any p ls F1 w hA hl).mono fun e w' ⟨h1, h2, h3⟩ => ⟨h1, hb (A' := SlotsA p (takeR ls).1) h2 h3⟩
theorem free_in {w0 w : World} {p : Nat} {ls : List (Int × Bool)} {l : List Assn} (h : In (fun _ => False) w0 (SlotsA p ls :: l) w) (hg : GensOk ls) (a b : Int) :
    Calls Try.prog 26 #[.pointer (some ⟨p, 0, none⟩), .agg #[.int .i64 a, .int .i64 b]] w fun e w' => e = .returned (.int .i64 (freeR ls a b).2) ∧ In (fun _ => False) w0 (SlotsA p (freeR ls a b).1 :: l) w' := by
  obtain ⟨F1, hA, hF, hb⟩ := h.open_
  exact (free_any p ls F1 a b w hA hg).mono fun e w' ⟨h1, h2, h3⟩ => ⟨h1, hb (A' := SlotsA p (freeR ls a b).1) (SlotsAt.mono h2 fun k _ h => Or.inl h) h3⟩
theorem live_in {w0 w : World} {p : Nat} {ls : List (Int × Bool)} {l : List Assn} (h : In (fun _ => False) w0 (SlotsA p ls :: l) w) (a b : Int) :
    Calls Try.prog 25 #[.pointer (some ⟨p, 0, none⟩), .agg #[.int .i64 a, .int .i64 b]] w fun e w' => e = .returned (.bool (liveB ls a b)) ∧ Below w.heap.size w w' ∧ In (fun _ => False) w0 (SlotsA p ls :: l) w' := by
  obtain ⟨F1, hA⟩ := h.head
  exact (live_any p ls F1 a b w hA).mono fun e w' ⟨h1, h2⟩ => ⟨h1, h2, h.below h2⟩
theorem gens_in {w0 w : World} {p : Nat} {ls : List (Int × Bool)} {l : List Assn} (h : In (fun _ => False) w0 (SlotsA p ls :: l) w) (hl : ls.length ≤ 60) :
    Calls Try.prog 27 #[.pointer (some ⟨p, 0, none⟩)] w fun e w' => ∃ v, e = .returned v ∧ OwnI w' w.heap.size v (gensL ls) ∧ Below w.heap.size w w' ∧ In (fun _ => False) w0 (SlotsA p ls :: l) w' := by
  obtain ⟨F1, hA⟩ := h.head
  exact (gens_any p ls F1 w hA hl).mono fun e w' ⟨v, h1, h2, h3⟩ => ⟨v, h1, h2, h3, h.below h3⟩
theorem new_in {w0 w : World} {l : List Assn} (h : In (fun _ => False) w0 l w) : Calls Try.prog 22 #[] w fun e w' => ∃ p, e = .returned (.pointer (some ⟨p, 0, none⟩)) ∧ In (fun _ => False) w0 (SlotsA p [] :: l) w' :=
  (new_any w).mono fun e w' ⟨h1, h2, h3⟩ => ⟨_, h1, h.new (A := SlotsA w.heap.size []) h3 (h2.mono fun k _ hk => by rcases hk with hk | hk; exact hk.elim; exact hk.1)⟩

def hL (h : Int × Int) : List Int := [h.1, h.2]
theorem OwnH.chunks {w : World} {B : Nat} {v : Value} {hs : List (Int × Int)} (h : OwnH w B v hs) : ∃ A c, v = .slice A hs.length c ∧ Chunks w w.heap.size 2 A (hs.map hL) := by
  obtain ⟨A, c, rfl, hr⟩ := h.form
  refine ⟨A, c, rfl, fun r hr => by obtain ⟨x, _, rfl⟩ := List.mem_map.1 hr; rfl, fun h0 => ?_⟩
  obtain ⟨g, rfl, hg1, hg2, _⟩ := hr 0 (by simpa using h0)
  refine ⟨g, 0, rfl, hg2, fun k r hk => ?_⟩
  rw [List.getElem?_map] at hk
  obtain ⟨x, hx, rfl⟩ := Option.map_eq_some_iff.1 hk
  have hkl := (List.getElem?_eq_some_iff.1 hx).1
  obtain ⟨g', e, _, _, h3, _⟩ := hr k hkl
  injection e with e
  injection e with e
  subst e
  have hgd : hs.getD k (0, 0) = x := by simp [List.getD, hx]
  rw [hgd] at h3
  rw [Nat.zero_add]; exact h3

theorem slotsBack_any (A : Option Addr) (n c : Nat) (zs : List Int) (w : World) (h : ReadsI w w.heap.size A n zs) (hn : n ≤ maxLen) :
    Calls Try.prog 8 #[.slice A n c] w fun e w' => e = .returned (.bool true) ∧ Below w.heap.size w w' := by
  have H := Lib.hid h
  have hn' : (n : Int) ≤ 9223372036854775807 := by unfold maxLen at hn; omega
  clear h hn
  go_enter Try.func8, Try.ntmps8
  go_wp2_with fail
  refine (slotted_any w).mono ?_
  rintro e w1 ⟨rfl, hb1⟩
  have HI1 : Hid (In (fun _ => False) w [] w1) := (In.nil w _).below hb1
  clear hb1
  go_wp2_with fail
  refine (new_in HI1.out).mono ?_
  rintro e w2 ⟨p, rfl, hI⟩
  have HI := Lib.hid hI
  clear hI HI1
  go_wp2_with fail
  go_loopw [23] (fun i w' => ∃ k : Nat, k ≤ n ∧ i = .int .i64 k ∧ In (fun _ => False) w [SlotsA p (playS [] (zs.take k))] w') (fun i _ => n - (intOf i).toNat)
  case atStart => exact ⟨0, by omega, rfl, HI.out⟩
  case round =>
    clear HI
    obtain ⟨k, hk, rfl, hI⟩ := hrel
    have HI := Lib.hid hI
    clear hI
    have HOK : Hid (SOk (playS [] (zs.take k))) := play_ok _ SOk.nil
    by_cases hlt : k < n
    · obtain ⟨b, o, rfl, hbl, hkl, hc⟩ := H.out.at_ hlt
      have hc' : wr.cell? ⟨b, o + k, none⟩ = some (.int .i64 zs[k]) := (HI.out.below0.cell (p := ⟨b, o + k, none⟩) hbl).trans hc
      have HN : Hid (playS [] (zs.take (k + 1)) = moveS (playS [] (zs.take k)) zs[k]) := by unfold Hid; rw [List.take_succ_eq_append_getElem hkl, play_snoc]
      clear hc
      generalize zs[k] = x at *
      generalize playS [] (zs.take k) = ls at *
      go_wp2_with fail
      refine (all_in HI.out HOK.out.1).mono ?_
      rintro e w3 ⟨v, rfl, hO, hb3, hI3⟩
      have HI3 := Lib.hid hI3
      obtain ⟨A3, c3, rfl, hrow⟩ := hO.form
      have HROW := Lib.hid hrow
      have hlen : (liveHs ls).length ≤ 60 := Nat.le_trans (liveN_len ls _) HOK.out.1
      clear hI3 hO hb3 hrow
      have HX0 : Hid (takes ls x = true → moveS ls x = (takeR ls).1) := fun h => by unfold moveS; rw [if_pos h]
      have HX1 : Hid (takes ls x = false → moveS ls x = (freeR ls (pick (liveHs ls) x).1 (pick (liveHs ls) x).2).1) := fun h => by unfold moveS; rw [if_neg (by rw [h]; simp)]
      by_cases h2 : x.tmod 2 = 0
      · have HT : Hid (takes ls x = true) := by unfold Hid takes; rw [h2]; rfl
        have hb2 : (x.tmod 2 == 0) = true := by rw [h2]; rfl
        clear h2
        go_wp2_with fail
        refine (take_in HI3.out HOK.out.1).mono ?_
        rintro e w4 ⟨rfl, hI4⟩
        have HI4 := Lib.hid hI4
        clear hI4
        go_wp2_with fail
        go_roundw
        case rel => exact ⟨k + 1, by omega, by go_num, by rw [HN.out, HX0.out HT.out]; exact HI4.out⟩
        case measure => simp [intOf]; omega
      · have hb2 : (x.tmod 2 == 0) = false := by simpa using h2
        by_cases h0 : (liveHs ls).length = 0
        · have HT : Hid (takes ls x = true) := by unfold Hid takes; rw [h0]; simp
          have hb3 : (((liveHs ls).length : Int) == 0) = true := by rw [h0]; rfl
          clear h2 h0
          go_wp2_with fail
          refine (take_in HI3.out HOK.out.1).mono ?_
          rintro e w4 ⟨rfl, hI4⟩
          have HI4 := Lib.hid hI4
          clear hI4
          go_wp2_with fail
          go_roundw
          case rel => exact ⟨k + 1, by omega, by go_num, by rw [HN.out, HX0.out HT.out]; exact HI4.out⟩
          case measure => simp [intOf]; omega
        · have HT : Hid (takes ls x = false) := by unfold Hid takes; rw [hb2]; simp; simpa using h0
          have hb3 : (((liveHs ls).length : Int) == 0) = false := by simp; simpa using h0
          obtain ⟨hp0, hp1⟩ := pick_at (hs := liveHs ls) x (by omega)
          have hpk : Hid (pick (liveHs ls) x = (liveHs ls).getD (x % ((liveHs ls).length : Int)).toNat (0, 0)) := rfl
          have hL0 : (0 : Int) < (liveHs ls).length := by omega
          clear h2 h0
          go_wp2_with fail
          refine (rest_any x ((liveHs ls).length : Nat) _ hL0 (by omega)).mono ?_
          rintro e w' ⟨rfl, rfl⟩
          generalize x % ((liveHs ls).length : Int) = y at *
          obtain ⟨j, rfl⟩ : ∃ j : Nat, y = j := ⟨y.toNat, by omega⟩
          rw [Int.toNat_natCast] at hpk
          obtain ⟨g, rfl, hg1, hg2, hg3, hg4, hg5⟩ := HROW.out j (by omega)
          rw [← hpk.out] at hg3
          clear hg4 hg5
          go_wp2_with fail
          refine (free_in HI3.out HOK.out.gens (pick (liveHs ls) x).1 (pick (liveHs ls) x).2).mono ?_
          rintro e w4 ⟨rfl, hI4⟩
          have HI4 := Lib.hid hI4
          clear hI4
          go_wp2_with fail
          go_roundw
          case rel => exact ⟨k + 1, by omega, by go_num, by rw [HN.out, HX1.out HT.out]; exact HI4.out⟩
          case measure => simp [intOf]; omega
    · have hkn : k = n := by omega
      subst hkn
      have hz : zs.take k = zs := List.take_of_length_le (by rw [H.out.len]; omega)
      rw [hz] at HI HOK
      generalize playS [] zs = ls at *
      clear hz hlt hk
      go_wp2_with fail
      refine (all_in HI.out HOK.out.1).mono ?_
      rintro e w4 ⟨v, rfl, hO, hb4, hI4⟩
      have HI4 := Lib.hid hI4
      obtain ⟨A3, c3, rfl, hrow⟩ := hO.form
      have HROW := Lib.hid hrow
      have hlen : (liveHs ls).length ≤ 60 := Nat.le_trans (liveN_len ls _) HOK.out.1
      have HLB := Lib.hid (load_back HOK.out)
      have HLB2 : Hid ((gensL ls).length ≤ 60 ∧ ((liveHs ls).map (·.1)).length ≤ 60) := by
        refine ⟨by rw [gensL_map]; simpa using HOK.out.1, by simpa using hlen⟩
      have hll : ((liveHs ls).length : Int) ≤ 60 := by omega
      clear hI4 hO hb4 hrow
      generalize hL : liveHs ls = L at *
      have HL := Lib.hid hL
      clear hL
      go_wp2_with fail
      go_loopw [52, 7] (fun i out w' => ∃ k : Nat, k ≤ L.length ∧ i = .int .i64 k ∧ OwnI w' w4.heap.size out ((L.take k).map (·.1)) ∧ Below w4.heap.size w4 w') (fun i _ _ => L.length - (intOf i).toNat)
      case atStart => exact ⟨0, by omega, rfl, OwnI.nil _ _, Below.refl _ _⟩
      case round =>
        obtain ⟨k, hk, rfl, hown, hb⟩ := hrel
        have HO := Lib.hid hown
        have HB := Lib.hid hb
        clear hown hb
        by_cases hlt : k < L.length
        · have hki : (k : Int) < L.length := by omega
          obtain ⟨g, rfl, hg1, hg2, hg3, hg4, hg5⟩ := HROW.out k hlt
          have hrow := (row_below HB.out hg2 (k * 2) 2).trans hg3
          have hS : Hid ((L.take (k + 1)).map (·.1) = (L.take k).map (·.1) ++ [(L.getD k (0, 0)).1]) := by
            unfold Hid; rw [List.take_succ_eq_append_getElem hlt, List.map_append]; simp [List.getD, List.getElem?_eq_getElem hlt]
          have hlk : ((L.take k).map (·.1)).length ≤ 60 := by simp; omega
          generalize hM1 : (L.take (k + 1)).map (·.1) = M1 at *
          have HM1 := Lib.hid hM1
          generalize (L.take k).map (·.1) = M at *
          generalize L.getD k (0, 0) = y at *
          obtain ⟨y1, y2⟩ := y
          simp only at hrow hS
          clear hg3 hg4 hg5 hM1
          go_upto_region 18 with (fail)
          refine wp_abs (fun w' => Blk w' wr.heap.size 42 (ints [y1, y2]) ∧ Below wr.heap.size wr w') ⟨blk_new_put wr 42 [0, 0] [y1, y2] rfl, below_new_put wr 42 [0, 0] [y1, y2]⟩ ?_
          rintro w5 ⟨hB5, hb5⟩
          have c1 : w5.cell? ⟨wr.heap.size, 0, none⟩ = some (.int .i64 y1) := hB5.cell 0
          have hown5 := HO.out.kept hb5
          have HB5 : Hid (Below w4.heap.size w4 w5) := HB.out.trans (hb5.mono HB.out.size)
          clear hB5 hb5 hrow
          go_wp2_with (at_builtin; refine wpList_append_i rfl _ _ rfl w4.heap.size _ M rfl hown5 y1 rfl ?_ ?_ ?_)
          case refine_1 => omega
          case refine_2 => exact HB5.out.size
          intro v' w6 hown6 _ hb6
          go_wp2_with fail
          go_roundw
          case rel => exact ⟨k + 1, by omega, by go_num, by rw [HM1.out, hS.out]; exact hown6, HB5.out.trans hb6⟩
          case measure => simp [intOf]; omega
        · have hkn : k = L.length := by omega
          subst hkn
          rw [List.take_length] at HO
          clear hlt hk
          have HI5 := Lib.hid (HI4.out.below HB.out)
          go_wp2_with fail
          refine (gens_in HI5.out HOK.out.1).mono ?_
          rintro e w6 ⟨v, rfl, hO6, hb6, hI6⟩
          have HI6 := Lib.hid hI6
          obtain ⟨A6, c6, rfl, hr6⟩ := hO6.form
          have HR6 : Hid (ReadsI w6 w6.heap.size A6 _ (gensL ls)) := hr6
          obtain ⟨A7, c7, rfl, hr7⟩ := (HO.out.kept hb6).form
          rw [List.length_map] at hr7
          have HR7 := Lib.hid hr7
          clear hI6 hO6 hb6 hr6 hr7
          go_wp2_with fail
          refine (load_any' A6 A7 _ _ c6 c7 (gensL ls) (L.map (·.1)) w6 HR6.out HR7.out (by have := HLB2.out.1; unfold maxLen; omega) (by have := HLB2.out.2; unfold maxLen; omega)).mono ?_
          rintro e w7 hE
          rw [HLB.out] at hE
          obtain ⟨hb7, q, rfl, hq⟩ := hE
          have HI7 : Hid (In (fun _ => False) w [SlotsA q ls, SlotsA p ls] w7) := HI6.out.new (A := SlotsA q ls) hb7 hq
          clear hb7 hq
          go_wp2_with fail
          refine (all_in HI7.out HOK.out.1).mono ?_
          rintro e w8 ⟨v, rfl, hO8, hb8, hI8⟩
          obtain ⟨A8, c8, rfl, hC8⟩ := hO8.chunks
          have HI8 := Lib.hid hI8
          have HC8 := Lib.hid hC8
          clear hb8 hI8 hC8 hO8
          go_wp2_with fail
          refine (all_in HI8.out.swap HOK.out.1).mono ?_
          rintro e w9 ⟨v, rfl, hO9, hb9, hI9⟩
          obtain ⟨A9, c9, rfl, hC9⟩ := hO9.chunks
          have HI9 := Lib.hid hI9
          have HC9 := Lib.hid hC9
          have HC8' : Hid (Chunks w9 w9.heap.size 2 A8 ((liveHs ls).map hL)) := (HC8.out.below hb9).more hb9.size
          have hL60 : (liveHs ls).length ≤ 60 := Nat.le_trans (liveN_len ls _) HOK.out.1
          have heq : Hid (sameRows ((liveHs ls).map hL) ((liveHs ls).map hL) = true) := by simp [Hid, sameRows]
          have hlm : Hid (((liveHs ls).map hL).length = (liveHs ls).length) := List.length_map ..
          clear hb9 hI9 hC9 hO9
          go_wp2_with fail
          rw [← hlm.out]
          refine (eqHandle_any A8 A9 c8 c9 _ _ w9 HC8'.out HC9.out (by rw [hlm.out]; unfold maxLen; omega) (by rw [hlm.out]; unfold maxLen; omega)).mono ?_
          rintro e w10 ⟨rfl, hb10⟩
          rw [heq.out]
          have HI10 := Lib.hid (HI9.out.below hb10)
          clear hb10
          go_wp2_with fail
          refine (gens_in HI10.out.swap HOK.out.1).mono ?_
          rintro e w11 ⟨v, rfl, hO11, hb11, hI11⟩
          obtain ⟨A11, c11, rfl, hC11⟩ := hO11.form
          have HI11 := Lib.hid hI11
          have HC11 : Hid (ReadsI w11 w11.heap.size A11 _ (gensL ls)) := hC11
          clear hb11 hI11 hC11 hO11
          go_wp2_with fail
          refine (gens_in HI11.out.swap HOK.out.1).mono ?_
          rintro e w12 ⟨v, rfl, hO12, hb12, hI12⟩
          obtain ⟨A12, c12, rfl, hC12⟩ := hO12.form
          have HI12 := Lib.hid hI12
          have HC12 : Hid (ReadsI w12 w12.heap.size A12 _ (gensL ls)) := hC12
          have HC11' : Hid (ReadsI w12 w12.heap.size A11 _ (gensL ls)) := (HC11.out.below hb12).more hb12.size
          clear hb12 hI12 hC12 hO12
          go_wp2_with fail
          refine (eqI_any A11 A12 _ _ c11 c12 (gensL ls) (gensL ls) w12 _ _ HC11'.out HC12.out (by have := HLB2.out.1; unfold maxLen; omega) (by have := HLB2.out.1; unfold maxLen; omega)).mono ?_
          rintro e w' ⟨rfl, rfl⟩
          rw [decide_eq_true (Eq.refl (gensL ls))]
          go_wp2_with fail
          refine (take_in HI12.out HOK.out.1).mono ?_
          rintro e w13 ⟨rfl, hI13⟩
          have HI13 := Lib.hid hI13
          clear hI13
          obtain ⟨T1, T2, T3, T4, hT⟩ : ∃ T1 T2 T3 T4, takeR ls = (T1, (T2, T3), T4) := ⟨_, _, _, _, rfl⟩
          have HT := Lib.hid hT
          rw [hT] at HI13 ⊢
          clear hT
          go_upto_region 24 with (fail)
          refine wp_abs (In (fun _ => False) w [Box w13.heap.size 42 (ints [T2, T3]), SlotsA p T1, SlotsA q ls]) (HI13.out.struct 42 [0, 0] [T2, T3] rfl) ?_
          generalize w13.heap.size = r
          intro w14 hI14
          have HI14 := Lib.hid hI14
          clear hI14
          go_wp2_with fail
          refine (take_in HI14.out.third HOK.out.1).mono ?_
          rintro e w15 ⟨rfl, hI15⟩
          have HI15 := Lib.hid hI15
          rw [HT.out]
          clear hI15
          go_upto_region 25 with (fail)
          refine wp_abs (In (fun _ => False) w [Box w15.heap.size 42 (ints [T2, T3]), SlotsA q (takeR ls).1, Box r 42 (ints [T2, T3]), SlotsA p T1]) (HI15.out.struct 42 [0, 0] [T2, T3] rfl) ?_
          generalize w15.heap.size = r2
          intro w16 hI16
          have hr := hI16.blk.row_all (n := 2) rfl
          have hr2 := hI16.third.blk.row_all (n := 2) rfl
          have HB := Lib.hid hI16.below0
          have he : ∀ W, (binOp .eql 42 (.agg (ints [T2, T3])) (.agg (ints [T2, T3]))).run Try.prog W = .ok (.bool true) W := fun W => by rw [eql_handle [T2, T3] [T2, T3] rfl rfl W]; simp
          have hT4 : (T4 == T4) = true := by simp
          clear hI16
          go_wp2_with fail
          go_outline
          go_ret
          exact ⟨rfl, HB.out⟩

end Go.Proofs.Ytmocljblfccglaa
