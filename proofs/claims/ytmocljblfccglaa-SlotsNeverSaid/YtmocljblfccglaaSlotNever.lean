/-
  The walk of the law SlotsNever.
-/
import Derived.Test.YtmocljblfccglaaSlotLeast
import Derived.Test.YtmocljblfccglaaHandleKey
import Derived.Test.YtmocljblfccglaaQuiet
namespace Go.Proofs.Ytmocljblfccglaa
open Go.RowKit

theorem never_take {ls : List (Int × Bool)} {b : Nat} (h : GLe ls b) (hb : b ≤ 1000) (ht : (takeR ls).2.2 = 0) :
    everB ls (takeR ls).2.1.1 (takeR ls).2.1.2 = false ∧ liveB (takeR ls).1 (takeR ls).2.1.1 (takeR ls).2.1.2 = true ∧
    (∀ x y, everB (takeR ls).1 x y = (everB ls x y || decide (x = (takeR ls).2.1.1 ∧ y = (takeR ls).2.1.2)) ∧ freedB (takeR ls).1 x y = freedB ls x y) ∧ (liveHs (takeR ls).1).length = (liveHs ls).length + 1 := by
  rcases take_cases (h.lt hb) with ⟨k, hk, hf, hbel, e⟩ | ⟨hall, ⟨_, e⟩ | ⟨_, e⟩⟩
  · rw [e]
    have h0 := (h.sl hk).1
    refine ⟨?_, ?_, fun x y => ever_set hk hf h0 x y, ?_⟩
    · simp only [everB, Int.toNat_natCast, hf]; simp
    · rw [liveB_iff (by simpa using hk), sl_set hk]; simp
    · have := count_set hk (sl ls k).1 true
      rw [hf] at this
      simp at this
      rw [live_count, live_count]; exact this
  · rw [e] at ht; simp at ht
  · rw [e]
    refine ⟨?_, ?_, fun x y => ever_new ls x y, ?_⟩
    · simp [everB]
    · rw [liveB_iff (by simp)]; simp [sl, List.getD]
    · rw [live_count, live_count, List.countP_append]; simp
theorem never_free {ls : List (Int × Bool)} {b : Nat} (h : GLe ls b) {y : Int × Int} (hy : y ∈ liveHs ls) :
    (freeR ls y.1 y.2).2 = 0 ∧ freeR (freeR ls y.1 y.2).1 y.1 y.2 = ((freeR ls y.1 y.2).1, 7) ∧ freedB ls y.1 y.2 = false ∧
    (∀ p q, everB (freeR ls y.1 y.2).1 p q = everB ls p q ∧ freedB (freeR ls y.1 y.2).1 p q = (freedB ls p q || decide (p = y.1 ∧ q = y.2))) ∧ (liveHs (freeR ls y.1 y.2).1).length + 1 = (liveHs ls).length := by
  obtain ⟨k, hk, h1, h2, h3, h4⟩ := free_case hy
  have h0 := (h.sl hk).1
  rw [h2] at h0
  rw [h3]
  refine ⟨rfl, h4, ?_, fun p q => ?_, ?_⟩
  · rw [h1]; simp only [freedB, Int.toNat_natCast, h2]; simp
  · rw [h1]; exact ever_free hk h2 h0 p q
  · have := count_set hk (y.2 + 1) false
    rw [h2] at this
    simp at this
    rw [live_count, live_count]; exact this

abbrev hV (xs : List Int) : Value := .agg (ints xs)
abbrev goodH (xs : List Int) : Prop := xs.length = 2
abbrev SetH (b : Nat) (m : List (List Int × Bool)) : Assn := MapA hV Value.bool goodH b m
/-- the map holds true at those keys that p takes -/
def HoldsH (m : List (List Int × Bool)) (p : Int → Int → Bool) : Prop := ∀ x y, mget m [x, y] = if p x y then some true else none
theorem HoldsH.put {m : List (List Int × Bool)} {p q : Int → Int → Bool} (h : HoldsH m p) {a b : Int} (hq : ∀ x y, q x y = (p x y || decide (x = a ∧ y = b))) : HoldsH (mput m [a, b] true) q := by
  intro x y
  rw [mget_mput, h x y, hq]
  by_cases e : x = a ∧ y = b
  · obtain ⟨rfl, rfl⟩ := e; simp
  · rw [if_neg (by intro e'; simp at e'; exact e e'), decide_eq_false e, Bool.or_false]
theorem HoldsH.same {m : List (List Int × Bool)} {p q : Int → Int → Bool} (h : HoldsH m p) (hq : ∀ x y, q x y = p x y) : HoldsH m q := fun x y => by rw [h x y, hq]

/-- what the law's loop keeps -/
structure Never (ls : List (Int × Bool)) (k : Nat) (ever freed : List (List Int × Bool)) : Prop where
  g : GLe ls k
  e : HoldsH ever (everB ls)
  f : HoldsH freed (freedB ls)
  n : ever.length = freed.length + (liveHs ls).length
  b : ever.length ≤ k
theorem Never.take {ls : List (Int × Bool)} {k : Nat} {ever freed : List (List Int × Bool)} (h : Never ls k ever freed) (hk : k ≤ 1000) (ht : (takeR ls).2.2 = 0) :
    mget ever [(takeR ls).2.1.1, (takeR ls).2.1.2] = none ∧ liveB (takeR ls).1 (takeR ls).2.1.1 (takeR ls).2.1.2 = true ∧ Never (takeR ls).1 (k + 1) (mput ever [(takeR ls).2.1.1, (takeR ls).2.1.2] true) freed := by
  obtain ⟨h1, h2, h3, h4⟩ := never_take h.g hk ht
  have h5 : mget ever [(takeR ls).2.1.1, (takeR ls).2.1.2] = none := by rw [h.e, h1]; rfl
  refine ⟨h5, h2, h.g.take hk, h.e.put fun x y => (h3 x y).1, h.f.same fun x y => (h3 x y).2, ?_, ?_⟩
  · rw [mput_len_new h5, h4, h.n]; omega
  · rw [mput_len_new h5]; have := h.b; omega
theorem Never.full {ls : List (Int × Bool)} {k : Nat} {ever freed : List (List Int × Bool)} (h : Never ls k ever freed) (hk : k ≤ 1000) (ht : (takeR ls).2.2 ≠ 0) :
    (takeR ls).2.2 = 2 ∧ (liveHs ls).length = 60 ∧ (takeR ls).1 = ls ∧ Never ls (k + 1) ever freed := by
  obtain ⟨h1, h2, h3⟩ := least_full h.g hk ht
  have := h.g.take hk
  rw [h3] at this
  exact ⟨h1, h2, h3, this, h.e, h.f, h.n, by have := h.b; omega⟩
theorem Never.free {ls : List (Int × Bool)} {k : Nat} {ever freed : List (List Int × Bool)} (h : Never ls k ever freed) {y : Int × Int} (hy : y ∈ liveHs ls) :
    (freeR ls y.1 y.2).2 = 0 ∧ freeR (freeR ls y.1 y.2).1 y.1 y.2 = ((freeR ls y.1 y.2).1, 7) ∧ Never (freeR ls y.1 y.2).1 (k + 1) ever (mput freed [y.1, y.2] true) := by
  obtain ⟨h1, h2, h3, h4, h5⟩ := never_free h.g hy
  have h6 : mget freed [y.1, y.2] = none := by rw [h.f, h3]; rfl
  refine ⟨h1, h2, h.g.free hy, h.e.same fun x y => (h4 x y).1, h.f.put fun x y => (h4 x y).2, ?_, by have := h.b; omega⟩
  rw [mput_len_new h6, h.n]; omega

set_option maxRecDepth 100000 in
theorem slotsNever_any (A : Option Addr) (n c : Nat) (zs : List Int) (w : World) (h : ReadsI w w.heap.size A n zs) (hnc : n ≤ c) (hc : c ≤ maxLen) :
    Calls Try.prog 6 #[.slice A n c] w fun e w' => e = .returned (.bool true) ∧ Below w.heap.size w w' := by
  have H := Lib.hid h
  have hn' : (n : Int) ≤ 9223372036854775807 := by unfold maxLen at hc; omega
  clear h
  have hmm := @run_makeMap Try.prog
  go_enter Try.func6, Try.ntmps6
  go_wp2_with fail
  refine (slotted_any w).mono ?_
  rintro e w1 ⟨rfl, hb1⟩
  have HI1 : Hid (In (fun _ => False) w [] w1) := (In.nil w _).below hb1
  clear hb1
  obtain ⟨m, hm1, hm2, hmi⟩ : ∃ m : Nat, m ≤ n ∧ m ≤ 1000 ∧ min (n : Int) 1000 = (m : Int) := ⟨min n 1000, by omega, by omega, by omega⟩
  have hmc : (m : Int) ≤ c := by omega
  have hcc : (c : Int) ≤ 9223372036854775807 := by unfold maxLen at hc; omega
  go_wp2_with fail
  refine (new_in HI1.out).mono ?_
  rintro e w2 ⟨p, rfl, hI⟩
  have HI := Lib.hid hI
  clear hI HI1
  go_upto_region 8 with (fail)
  refine wp_abs (In (fun _ => False) w [SetH w2.heap.size [], SlotsA p []]) (HI.out.newMap hV Value.bool goodH) ?_
  generalize w2.heap.size = g1
  intro w3 hI
  have HI := Lib.hid hI
  clear hI
  go_upto_region 9 with (fail)
  refine wp_abs (In (fun _ => False) w [SetH w3.heap.size [], SetH g1 [], SlotsA p []]) (HI.out.newMap hV Value.bool goodH) ?_
  generalize w3.heap.size = g2
  intro w4 hI
  have HI := Lib.hid hI
  clear hI
  go_wp2_with fail
  go_loopw [27] (fun i w' => ∃ k : Nat, k ≤ m ∧ i = .int .i64 k ∧ ∃ ever freed, Never (playS [] (zs.take k)) k ever freed ∧ In (fun _ => False) w [SetH g2 freed, SetH g1 ever, SlotsA p (playS [] (zs.take k))] w') (fun i _ => m - (intOf i).toNat)
  case atStart => exact ⟨0, by omega, rfl, [], [], ⟨by intro x hx; simp [playS] at hx, fun x y => by simp [playS, everB, mget], fun x y => by simp [playS, freedB, mget], rfl, by simp⟩, HI.out⟩
  case round =>
    clear HI
    obtain ⟨k, hk, rfl, ever, freed, hg, hI⟩ := hrel
    have HI := Lib.hid hI
    have HV := Lib.hid hg
    clear hI hg
    have HOK : Hid (SOk (playS [] (zs.take k))) := play_ok _ SOk.nil
    by_cases hlt : k < m
    · obtain ⟨b, o, rfl, hbl, hkl, hc⟩ := H.out.at_ (k := k) (by omega)
      have hc' : wr.cell? ⟨b, o + k, none⟩ = some (.int .i64 zs[k]) := (HI.out.below0.cell (p := ⟨b, o + k, none⟩) hbl).trans hc
      have HN : Hid (playS [] (zs.take (k + 1)) = moveS (playS [] (zs.take k)) zs[k]) := by unfold Hid; rw [List.take_succ_eq_append_getElem hkl, play_snoc]
      clear hc
      generalize zs[k] = x at *
      generalize playS [] (zs.take k) = ls at *
      have HX0 : Hid (takes ls x = true → moveS ls x = (takeR ls).1) := fun h => by unfold moveS; rw [if_pos h]
      have HX1 : Hid (takes ls x = false → moveS ls x = (freeR ls (pick (liveHs ls) x).1 (pick (liveHs ls) x).2).1) := fun h => by unfold moveS; rw [if_neg (by rw [h]; simp)]
      have hl60 := HOK.out.1
      have hlen : (liveHs ls).length ≤ 60 := Nat.le_trans (liveN_len ls _) HOK.out.1
      go_wp2_with fail
      refine (all_in2 HI.out.third HOK.out.1).mono ?_
      rintro e w5 ⟨v, rfl, hI3⟩
      have HI3 := Lib.hid hI3
      obtain ⟨A3, c3, rfl, hrow⟩ := HsA.form hI3
      have HROW := Lib.hid hrow
      clear hI3 hrow
      by_cases ht : takes ls x = true
      · have HS : Hid (playS [] (zs.take (k + 1)) = (takeR ls).1) := by unfold Hid; rw [HN.out, HX0.out ht]
        have hways : (x.tmod 2 == 0) = true ∨ ((x.tmod 2 == 0) = false ∧ (((liveHs ls).length : Int) == 0) = true) := by
          unfold takes at ht
          cases hb : (x.tmod 2 == 0)
          · rw [hb, Bool.false_or] at ht
            exact Or.inr ⟨rfl, by simpa using ht⟩
          · exact Or.inl rfl
        clear ht HX0 HX1 HN
        rcases hways with hb2 | ⟨hb2, hb3⟩
        all_goals
          go_wp2_with fail
          refine (take_in HI3.out.swap HOK.out.1).mono ?_
          rintro e w6 ⟨rfl, hI4⟩
          have HI4 := Lib.hid hI4
          clear hI4
          by_cases herr : (takeR ls).2.2 = 0
          rotate_left
          · obtain ⟨he2, hl6, hls, hnv⟩ := HV.out.full (by omega) herr
            have HNV := Lib.hid hnv
            rw [hls] at HI4 HS
            rw [he2]
            have hl7 : decide (((liveHs ls).length : Int) < 60) = false := by rw [hl6]; decide
            clear he2 hls herr hnv hl6
            go_wp2_with fail
            go_roundw
            case rel => exact ⟨k + 1, by omega, by go_num, ever, freed, by rw [HS.out]; exact HNV.out, by rw [HS.out]; exact (HI4.out.struct 42 [0, 0] [(takeR ls).2.1.1, (takeR ls).2.1.2] rfl).drop.swap.drop.third.third⟩
            case measure => simp [intOf]; omega
          · obtain ⟨h1, h2, h3⟩ := HV.out.take (by omega) herr
            have HNV := Lib.hid h3
            have HG := Lib.hid h1
            have HLV := Lib.hid h2
            rw [herr]
            clear herr h1 h2 h3
            generalize (takeR ls).2.1.1 = T1 at *
            generalize (takeR ls).2.1.2 = T2 at *
            generalize (takeR ls).1 = ls' at *
            go_upto_region 15 with (fail)
            refine wp_abs (In (fun _ => False) w [Box w6.heap.size 42 (ints [T1, T2]), SlotsA p ls', HsA (.slice A3 (liveHs ls).length c3) (liveHs ls), SetH g2 freed, SetH g1 ever]) (HI4.out.struct 42 [0, 0] [T1, T2] rfl) ?_
            generalize w6.heap.size = r
            intro w7 hI5
            have HI5 := Lib.hid hI5
            have hr := hI5.blk.row_all (n := 2) rfl
            clear hI5
            go_wp2_with (at_lookup; refine wpList_look keyH rfl _ _ 38 4 false rfl Try.underlying38 (.bool false) (zero_bool _) g1 ever rfl (HI5.out.drop.fourth.mapAt) [T1, T2] rfl rfl (.bool false) (by rw [HG.out]; rfl) ?_)
            refine (live_in HI5.out.swap T1 T2).mono ?_
            rintro e w8 ⟨rfl, hb8, hI8⟩
            have HI8 := Lib.hid hI8
            rw [HLV.out]
            have hr8 := hI8.swap.blk.row_all (n := 2) rfl
            clear hb8 hI8
            go_wp2_with (at_mapUpdate; refine wpList_store keyH rfl _ _ _ 38 4 rfl Try.underlying38 g1 ever rfl (HI8.out.swap.drop.fourth.mapAt) [T1, T2] rfl rfl true rfl ?_)
            intro w9 hm9 ho9 _
            have HI9 := Lib.hid (HI8.out.swap.drop.fourth.mapped hm9 ho9)
            clear hm9 ho9
            go_wp2_with fail
            go_roundw
            case rel => exact ⟨k + 1, by omega, by go_num, _, freed, by rw [HS.out]; exact HNV.out, by rw [HS.out]; exact HI9.out.third.drop.third⟩
            case measure => simp [intOf]; omega
      · have htf : takes ls x = false := by simpa using ht
        obtain ⟨hb2, hb0⟩ : (x.tmod 2 == 0) = false ∧ ((liveHs ls).length == 0) = false := by
          unfold takes at htf; rw [Bool.or_eq_false_iff] at htf; exact htf
        have hb3 : (((liveHs ls).length : Int) == 0) = false := by simp; simpa using hb0
        have hpos : 0 < (liveHs ls).length := by have := hb0; simp at this; exact List.length_pos_iff.2 this
        have HS : Hid (playS [] (zs.take (k + 1)) = (freeR ls (pick (liveHs ls) x).1 (pick (liveHs ls) x).2).1) := by unfold Hid; rw [HN.out, HX1.out htf]
        obtain ⟨hf1, hf2, hnv⟩ := HV.out.free (pick_mem x hpos)
        have HF1 := Lib.hid hf1
        have HF2 := Lib.hid hf2
        have HNV := Lib.hid hnv
        have HOK2 : Hid (SOk (freeR ls (pick (liveHs ls) x).1 (pick (liveHs ls) x).2).1) := free_ok HOK.out _ _
        obtain ⟨hp0, hp1⟩ := pick_at (hs := liveHs ls) x hpos
        have hpk : Hid (pick (liveHs ls) x = (liveHs ls).getD (x % ((liveHs ls).length : Int)).toNat (0, 0)) := rfl
        have hL0 : (0 : Int) < (liveHs ls).length := by omega
        clear ht htf hb0 hpos HX0 HX1 HN hf1 hf2 hnv
        go_wp2_with fail
        refine (rest_any x ((liveHs ls).length : Nat) _ hL0 (by omega)).mono ?_
        rintro e w' ⟨rfl, rfl⟩
        generalize x % ((liveHs ls).length : Int) = y at *
        obtain ⟨j, rfl⟩ : ∃ j : Nat, y = j := ⟨y.toNat, by omega⟩
        rw [Int.toNat_natCast] at hpk
        obtain ⟨g, rfl, hg2, hg3, hg4, hg5⟩ := HROW.out j (by omega)
        rw [← hpk.out] at hg3
        clear hg4 hg5
        generalize pick (liveHs ls) x = y at *
        obtain ⟨y1, y2⟩ := y
        simp only at hg3 HF1 HF2 HNV HS HOK2
        go_upto_region 22 with (fail)
        refine wp_abs (In (fun _ => False) w [Box w5.heap.size 42 (ints [y1, y2]), HsA (.slice (some ⟨g, 0, none⟩) (liveHs ls).length c3) (liveHs ls), SlotsA p ls, SetH g2 freed, SetH g1 ever]) (HI3.out.struct 42 [0, 0] [y1, y2] rfl) ?_
        generalize w5.heap.size = r
        intro w7 hI5
        have HI5 := Lib.hid hI5
        have hr := hI5.blk.row_all (n := 2) rfl
        clear hI5
        go_wp2_with fail
        refine (free_in HI5.out.third HOK.out.gens y1 y2).mono ?_
        rintro e w8 ⟨rfl, hI8⟩
        have HI8 := Lib.hid hI8
        rw [HF1.out]
        have hr8 := hI8.swap.blk.row_all (n := 2) rfl
        clear hI8
        generalize (freeR ls y1 y2).1 = ls' at *
        go_wp2_with fail
        refine (free_in HI8.out HOK2.out.gens y1 y2).mono ?_
        rintro e w9 ⟨rfl, hI9⟩
        rw [HF2.out] at hI9 ⊢
        have HI9 := Lib.hid hI9
        have hr9 := hI9.swap.blk.row_all (n := 2) rfl
        clear hI9
        go_wp2_with (at_mapUpdate; refine wpList_store keyH rfl _ _ _ 38 4 rfl Try.underlying38 g2 freed rfl (HI9.out.fourth.mapAt) [y1, y2] rfl rfl true rfl ?_)
        intro w10 hm10 ho10 _
        have HI10 := Lib.hid (HI9.out.fourth.mapped hm10 ho10)
        clear hm10 ho10
        go_wp2_with fail
        go_roundw
        case rel => exact ⟨k + 1, by omega, by go_num, ever, _, by rw [HS.out]; exact HNV.out, by rw [HS.out]; exact HI10.out.third.drop.third.drop.third.swap⟩
        case measure => simp [intOf]; omega
    · have hkm : k = m := by omega
      subst hkm
      clear hlt hk
      generalize playS [] (zs.take k) = ls at *
      go_wp2_with (at_range; refine wpList_rangeOver rfl _ 38 4 rfl Try.underlying38 g1 ever rfl HI.out.swap.mapAt ?_)
      intro w5 hr5 hb5 hs5
      have HI5 := Lib.hid (HI.out.swap.ranged hr5 hb5 hs5)
      generalize wr.heap.size = r at *
      clear hr5 hb5 hs5
      have hl60 := HOK.out.1
      go_wp2_with fail
      go_loopw [12] (fun _ w' => ∃ left, In (fun _ => False) w [RangeA hV Value.bool goodH g1 r ever left, SetH g2 freed, SlotsA p ls] w') (fun _ w' => w'.rangeLeft g1 r)
      case atStart => exact ⟨ever, HI5.out⟩
      case round =>
        clear HI5 HI
        obtain ⟨left, hI⟩ := hrel
        have HI := Lib.hid hI
        clear hI
        go_wp2_with (at_next; refine wpList_nextOf keyH rfl _ rfl g1 r ever left rfl HI.out.rangeAt ?_ ?_)
        · intro hl0
          have HI8 := Lib.hid HI.out.unranged
          have HMG := HI8.out.mapAt.len Try.underlying38
          go_wp2_with fail
          refine (all_in HI8.out.third HOK.out.1).mono ?_
          rintro e w6 ⟨v, rfl, hO, hb6, hI6⟩
          obtain ⟨A6, c6, rfl, _⟩ := hO.form
          have l1 := fun T => hI6.third.mapAt.len Try.underlying38 T
          have l2 := fun T => hI6.swap.mapAt.len Try.underlying38 T
          have HB := Lib.hid hI6.below0
          have hn1 := HV.out.n
          have hn2 := HV.out.b
          have hl2 : (liveHs ls).length ≤ 60 := Nat.le_trans (liveN_len ls _) hl60
          have heq : (((liveHs ls).length : Int) == (ever.length : Int) - (freed.length : Int)) = true := by simp; omega
          have he1 : (ever.length : Int) ≤ 1000 := by omega
          have he2 : (freed.length : Int) ≤ 1000 := by omega
          have he3 : ((liveHs ls).length : Int) ≤ 60 := by omega
          clear hn1 hn2 hI6 hO hb6
          go_wp2_with fail
          go_ret
          exact ⟨rfl, HB.out⟩
        · intro x
          have hno : ∀ v, (x, v) ∈ left → ∃ a b, x = [a, b] ∧ everB ls a b = true ∧ v = true := by
            intro v hx
            have hin := HI.out.rangeAt.sub _ hx
            have hgx : x.length = 2 := HI.out.rangeAt.map.keys_good _ hin
            obtain ⟨a, b, rfl⟩ : ∃ a b, x = [a, b] := by
              match x, hgx with
              | [a, b], _ => exact ⟨a, b, rfl⟩
            have h1 := mget_of_mem (HI.out.rangeAt.map.nodup keyH) hin
            rw [HV.out.e] at h1
            cases hE : everB ls a b
            · rw [hE] at h1; simp at h1
            · rw [hE] at h1; simp at h1; exact ⟨a, b, rfl, by first | exact hE | rfl, h1⟩
          constructor
          · intro w6 hx
            obtain ⟨_, _, _, _, h⟩ := hno false hx
            cases h
          intro w6 hx hr6 ho6 hs6 hlt6 hen
          obtain ⟨a, b, rfl, hE, _⟩ := hno true hx
          have HI6 := Lib.hid (HI.out.stepped hr6 ho6)
          have HLT := Lib.hid hlt6
          have HFB : Hid (mget freed [a, b] = if freedB ls a b then some true else none) := HV.out.f a b
          have HNE : Hid (freedB ls a b = !liveB ls a b) := everB_true hE
          clear hno hr6 ho6 hs6 hlt6 hx hE
          go_upto_region 29 with (fail)
          refine wp_abs (In (fun _ => False) w [Box w6.heap.size 42 (ints [a, b]), RangeA hV Value.bool goodH g1 r ever (mdel left [a, b]), SetH g2 freed, SlotsA p ls]) (HI6.out.struct 42 [0, 0] [a, b] rfl) ?_
          generalize w6.heap.size = q
          intro w7 hI7
          obtain ⟨F1, hS⟩ := hI7.fourth.head
          have hBx := hI7.blk
          have hMp := hI7.third.mapAt
          have HI7 := Lib.hid hI7.drop
          clear hI7 hen HI6
          have c1 : ∀ n : After w7, row? n.w q 0 2 = some (ints [a, b]) := fun n => (hBx.after n.below).row_all rfl
          have c2 : ∀ n : After w7, Calls Try.prog 25 #[.pointer (some ⟨p, 0, none⟩), .agg #[.int .i64 a, .int .i64 b]] n.w fun e w' => e = .returned (.bool (liveB ls a b)) ∧ Below n.w.heap.size n.w w' :=
            fun n => live_any p ls F1 a b n.w (ColAt.after hS n.below)
          have c3 : ∀ n : After w7, (Instr.lookup 38 (.map (some g2)) (.agg (ints [a, b])) false).run Try.prog n.w = .ok (.bool (!liveB ls a b)) n.w := fun n => by
            rw [(hMp.after n.below).look keyH Try.underlying38 (zero_bool _) rfl false, HFB.out, HNE.out]
            cases liveB ls a b <;> rfl
          have C2 := Lib.hid c2
          clear c2 hS hBx hMp HFB HNE
          generalize hlv : liveB ls a b = lv at *
          have heq : (lv == !lv) = false := by cases lv <;> rfl
          clear hlv
          refine wp_region_after (by kernel_rfl) (by kernel_rfl) ?_
          repeat (go_big_quiet_step ((go_at_call 25; exact quiet_after (C2.out _))))
          refine wpQuiet_nil ?_
          rintro _ ⟨n, rfl⟩
          have HI8 := Lib.hid (HI7.out.below n.below)
          go_wp2_with fail
          go_roundw
          case rel => exact ⟨_, HI8.out⟩
          case measure => rw [HI8.out.rangeAt.count, HI.out.rangeAt.count]; exact HLT.out

end Go.Proofs.Ytmocljblfccglaa
