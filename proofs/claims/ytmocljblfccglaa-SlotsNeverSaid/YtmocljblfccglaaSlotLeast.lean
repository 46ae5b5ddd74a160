/-
  The walk of the law SlotsLeast.
-/
import Derived.Test.YtmocljblfccglaaSlotLaws
import Derived.Test.YtmocljblfccglaaSlotMath2
import Derived.Test.YtmocljblfccglaaMapSep
namespace Go.Proofs.Ytmocljblfccglaa
open Go.RowKit

/-- a slice of handles of one's own, among other things -/
def HsA (v : Value) (hs : List (Int × Int)) : Assn := RowA 42 2 v hs.length (hs.flatMap hC)
theorem all_in2 {w0 w : World} {p : Nat} {ls : List (Int × Bool)} {l : List Assn} (h : In (fun _ => False) w0 (SlotsA p ls :: l) w) (hl : ls.length ≤ 60) :
    Calls Try.prog 23 #[.pointer (some ⟨p, 0, none⟩)] w fun e w' => ∃ v, e = .returned v ∧ In (fun _ => False) w0 (HsA v (liveHs ls) :: SlotsA p ls :: l) w' := by
  obtain ⟨F1, hA⟩ := h.head
  exact (all_any p ls F1 w hA hl).mono fun e w' ⟨v, h1, h2, h3⟩ => ⟨v, h1, h.new h3 ⟨⟨h2.1, by rcases h2.2 with h | ⟨g, cap, cur, e, _, r⟩; exact Or.inl h; exact Or.inr ⟨g, cap, cur, e, Nat.zero_le _, r⟩⟩, fun k hk => (h2.lt k hk).1⟩⟩
theorem HsA.form {w0 w : World} {v : Value} {hs : List (Int × Int)} {l : List Assn} {F : Nat → Prop} (h : In F w0 (HsA v hs :: l) w) : ∃ A c, v = .slice A hs.length c ∧ ∀ k, k < hs.length → ∃ g, A = some ⟨g, 0, none⟩ ∧ g < w.heap.size ∧
    row? w g (k * 2) 2 = some (ints [(hs.getD k (0, 0)).1, (hs.getD k (0, 0)).2]) ∧ w.cell? ⟨g, k * 2, none⟩ = some (.int .i64 (hs.getD k (0, 0)).1) ∧ w.cell? ⟨g, k * 2 + 1, none⟩ = some (.int .i64 (hs.getD k (0, 0)).2) := by
  obtain ⟨F1, hA, _⟩ := h.head
  have : OwnH w 0 v hs := hA
  obtain ⟨A, c, e, hr⟩ := this.form
  exact ⟨A, c, e, fun k hk => by obtain ⟨g, e, _, h2⟩ := hr k hk; exact ⟨g, e, h2⟩⟩

abbrev SetI (b : Nat) (m : List (Int × Bool)) : Assn := MapA (Value.int .i64) Value.bool goodI b m
/-- a set holds the first n of these -/
def Holds1 (m : List (Int × Bool)) (zs : List Int) : Prop := ∀ x, mget m x = if x ∈ zs then some true else none
theorem Holds1.put {m : List (Int × Bool)} {zs : List Int} (h : Holds1 m zs) (y : Int) : Holds1 (mput m y true) (zs ++ [y]) := by
  intro x
  rw [mget_mput, h x]
  by_cases e : x = y
  · simp [e]
  · rw [if_neg e]
    by_cases hx : x ∈ zs <;> simp [hx, e]
theorem slotsLeast_any (A : Option Addr) (n c : Nat) (zs : List Int) (w : World) (h : ReadsI w w.heap.size A n zs) (hnc : n ≤ c) (hc : c ≤ maxLen) :
    Calls Try.prog 7 #[.slice A n c] w fun e w' => e = .returned (.bool true) ∧ Below w.heap.size w w' := by
  have H := Lib.hid h
  have hn' : (n : Int) ≤ 9223372036854775807 := by unfold maxLen at hc; omega
  clear h
  go_enter Try.func7, Try.ntmps7
  go_wp2_with fail
  refine (slotted_any w).mono ?_
  rintro e w1 ⟨rfl, hb1⟩
  have HI1 : Hid (In (fun _ => False) w [] w1) := (In.nil w _).below hb1
  clear hb1
  obtain ⟨m, hm1, hm2, hmi⟩ : ∃ m : Nat, m ≤ n ∧ m ≤ 1000 ∧ min (n : Int) 1000 = (m : Int) := ⟨min n 1000, by omega, by omega, by omega⟩
  have hmc : (m : Int) ≤ c := by omega
  have hcc : (c : Int) ≤ 9223372036854775807 := by unfold maxLen at hc; omega
  go_wp2_with fail
  refine (new_in HI1.out).mono ?_
  rintro e w2 ⟨p, rfl, hI⟩
  have HI := Lib.hid hI
  clear hI HI1
  go_wp2_with fail
  go_loopw [26, 4] (fun i most w' => ∃ k : Nat, k ≤ m ∧ i = .int .i64 k ∧ most = .int .i64 ((playS [] (zs.take k)).length : Nat) ∧ GLe (playS [] (zs.take k)) k ∧ In (fun _ => False) w [SlotsA p (playS [] (zs.take k))] w') (fun i _ _ => m - (intOf i).toNat)
  case atStart => exact ⟨0, by omega, rfl, rfl, by intro x hx; simp [playS] at hx, HI.out⟩
  case round =>
    clear HI
    obtain ⟨k, hk, rfl, rfl, hg, hI⟩ := hrel
    have HI := Lib.hid hI
    have HG := Lib.hid hg
    clear hI hg
    have HOK : Hid (SOk (playS [] (zs.take k))) := play_ok _ SOk.nil
    by_cases hlt : k < m
    · obtain ⟨b, o, rfl, hbl, hkl, hc⟩ := H.out.at_ (k := k) (by omega)
      have hc' : wr.cell? ⟨b, o + k, none⟩ = some (.int .i64 zs[k]) := (HI.out.below0.cell (p := ⟨b, o + k, none⟩) hbl).trans hc
      have HN : Hid (playS [] (zs.take (k + 1)) = moveS (playS [] (zs.take k)) zs[k]) := by unfold Hid; rw [List.take_succ_eq_append_getElem hkl, play_snoc]
      clear hc
      generalize zs[k] = x at *
      generalize playS [] (zs.take k) = ls at *
      have HX0 : Hid (takes ls x = true → moveS ls x = (takeR ls).1) := fun h => by unfold moveS; rw [if_pos h]
      have HX1 : Hid (takes ls x = false → moveS ls x = (freeR ls (pick (liveHs ls) x).1 (pick (liveHs ls) x).2).1) := fun h => by unfold moveS; rw [if_neg (by rw [h]; simp)]
      have hl60 := HOK.out.1
      have hlen : (liveHs ls).length ≤ 60 := Nat.le_trans (liveN_len ls _) HOK.out.1
      go_wp2_with fail
      refine (all_in2 HI.out HOK.out.1).mono ?_
      rintro e w3 ⟨v, rfl, hI3⟩
      have HI3 := Lib.hid hI3
      obtain ⟨A3, c3, rfl, hrow⟩ := HsA.form hI3
      have HROW := Lib.hid hrow
      clear hI3 hrow
      by_cases ht : takes ls x = true
      · have HS : Hid (playS [] (zs.take (k + 1)) = (takeR ls).1) := by unfold Hid; rw [HN.out, HX0.out ht]
        have hways : (x.tmod 2 == 0) = true ∨ ((x.tmod 2 == 0) = false ∧ (((liveHs ls).length : Int) == 0) = true) := by
          unfold takes at ht
          cases hb : (x.tmod 2 == 0)
          · rw [hb, Bool.false_or] at ht
            exact Or.inr ⟨rfl, by simpa using ht⟩
          · exact Or.inl rfl
        clear ht HX0 HX1 HN
        rcases hways with hb2 | ⟨hb2, hb3⟩
        all_goals
          go_wp2_with fail
          refine (take_in HI3.out.swap HOK.out.1).mono ?_
          rintro e w4 ⟨rfl, hI4⟩
          have HI4 := Lib.hid hI4
          clear hI4
          by_cases herr : (takeR ls).2.2 = 0
          rotate_left
          · obtain ⟨he2, _, hls⟩ := least_full HG.out (by omega) herr
            have HG2 := Lib.hid (HG.out.take (by omega))
            rw [hls] at HI4 HS HG2
            rw [he2]
            clear he2 hls herr
            go_wp2_with fail
            go_roundw
            case rel => exact ⟨k + 1, by omega, by go_num, by rw [HS.out], by rw [HS.out]; exact HG2.out, by rw [HS.out]; exact (HI4.out.struct 42 [0, 0] [(takeR ls).2.1.1, (takeR ls).2.1.2] rfl).drop.swap.drop⟩
            case measure => simp [intOf]; omega
          · obtain ⟨hin, h0, h1, hmax⟩ := least_take HG.out (by omega) herr
            have HG2 := Lib.hid (HG.out.take (by omega))
            have HIN := Lib.hid hin
            have HMAX := Lib.hid hmax
            rw [herr]
            clear herr hin hmax
            generalize (takeR ls).2.1.1 = T1 at *
            generalize (takeR ls).2.1.2 = T2 at *
            generalize (takeR ls).1 = ls' at *
            obtain ⟨K, rfl⟩ : ∃ K : Nat, T1 = K := ⟨T1.toNat, by omega⟩
            go_upto_region 14 with (fail)
            refine wp_abs (In (fun _ => False) w [Box w4.heap.size 42 (ints [(K : Int), T2]), SlotsA p ls', HsA (.slice A3 (liveHs ls).length c3) (liveHs ls)]) (HI4.out.struct 42 [0, 0] [(K : Int), T2] rfl) ?_
            generalize w4.heap.size = r
            intro w5 hI5
            have HI5 := Lib.hid hI5
            clear hI5
            have hmm := @run_makeMap Try.prog
            go_wp2_with fail
            refine wp_abs (In (fun _ => False) w [SetI w5.heap.size [], HsA (.slice A3 (liveHs ls).length c3) (liveHs ls), Box r 42 (ints [(K : Int), T2]), SlotsA p ls']) (((HI5.out.new (A := SetI w5.heap.size []) ((Below.refl _ _).alloc (Nat.le_refl _) _) ⟨MapAt.new _ _ _ _, Nat.le_refl _⟩)).fourth.swap) ?_
            generalize w5.heap.size = g
            intro w6 hI6
            have HI6 := Lib.hid hI6
            clear hI6 HI5 HROW
            have hLb : ∀ y ∈ liveHs ls, -1000000000000 ≤ y.1 ∧ y.1 ≤ 1000000000000 := fun y hy => by
              obtain ⟨q, hq, rfl, _⟩ := live_mem.1 hy
              simp only; omega
            generalize hL : liveHs ls = L at *
            have HL := Lib.hid hL
            clear hL
            go_loopw [50] (fun i w' => ∃ j : Nat, j ≤ L.length ∧ i = .int .i64 j ∧ ∃ mm, Holds1 mm ((L.take j).map (·.1)) ∧ In (fun _ => False) w [SetI g mm, HsA (.slice A3 L.length c3) L, Box r 42 (ints [(K : Int), T2]), SlotsA p ls'] w') (fun i _ => L.length - (intOf i).toNat)
            case atStart => exact ⟨0, by omega, rfl, [], fun x => rfl, HI6.out⟩
            case round =>
              obtain ⟨j, hj, rfl, mm, hmm, hI⟩ := hrel
              have HI := Lib.hid hI
              have HM := Lib.hid hmm
              obtain ⟨A4, c4, hA4, hrow⟩ := HsA.form hI.swap
              injection hA4 with e1 e2 e3
              subst e1; subst e3
              clear hI hmm e2
              by_cases hlt : j < L.length
              · have hji : (j : Int) < L.length := by omega
                obtain ⟨g2, rfl, hg2, hr2, _, _⟩ := hrow j hlt
                have hS : Hid ((L.take (j + 1)).map (·.1) = (L.take j).map (·.1) ++ [(L.getD j (0, 0)).1]) := by
                  unfold Hid; rw [List.take_succ_eq_append_getElem hlt, List.map_append]; simp [List.getD, List.getElem?_eq_getElem hlt]
                have hyb : -1000000000000 ≤ (L.getD j (0, 0)).1 ∧ (L.getD j (0, 0)).1 ≤ 1000000000000 := hLb _ (by simp only [List.getD, List.getElem?_eq_getElem hlt, Option.getD_some]; exact List.getElem_mem hlt)
                generalize L.getD j (0, 0) = y at *
                obtain ⟨y1, y2⟩ := y
                simp only at hr2 hS hyb
                clear hrow
                go_upto_region 19 with (fail)
                refine wp_abs (In (fun _ => False) w [Box wr.heap.size 42 (ints [y1, y2]), SetI g mm, HsA (.slice (some ⟨g2, 0, none⟩) L.length c3) L, Box r 42 (ints [(K : Int), T2]), SlotsA p ls']) (HI.out.struct 42 [0, 0] [y1, y2] rfl) ?_
                generalize wr.heap.size = q
                intro w7 hI7
                have HI7 := Lib.hid hI7.drop
                have hq : w7.cell? ⟨q, 0, none⟩ = some (.int .i64 y1) := hI7.blk.cell 0
                clear hI7 hr2
                go_wp2_with (at_mapUpdate; refine wpList_store keyI rfl _ _ _ 48 4 rfl Try.underlying48 g mm rfl HI7.out.mapAt y1 rfl (wf_small hyb) true rfl ?_)
                intro w8 hm8 ho8 _
                have HI8 := Lib.hid (HI7.out.mapped hm8 ho8)
                clear hm8 ho8
                go_wp2_with fail
                go_roundw
                case rel => exact ⟨j + 1, by omega, by go_num, _, by rw [hS.out]; exact HM.out.put y1, HI8.out⟩
                case measure => simp [intOf]; omega
              · have hjl : j = L.length := by omega
                subst hjl
                rw [List.take_length] at HM
                have c1 : wr.cell? ⟨r, 0, none⟩ = some (.int .i64 (K : Int)) := HI.out.third.blk.cell 0
                have hmx : max (ls.length : Int) ((L.length : Int) + 1) = ((max ls.length (L.length + 1) : Nat) : Int) := by omega
                rw [← HMAX.out] at hmx
                have hL60 : (L.length : Int) ≤ 60 := by omega
                clear hlt hj hrow
                go_wp2_with fail
                go_loopw [60] (fun i w' => ∃ j : Nat, j ≤ K ∧ i = .int .i64 j ∧ In (fun _ => False) w [SetI g mm, HsA (.slice A3 L.length c3) L, Box r 42 (ints [(K : Int), T2]), SlotsA p ls'] w') (fun i _ => K - (intOf i).toNat)
                case atStart => exact ⟨0, by omega, rfl, HI.out⟩
                case round =>
                  clear HI c1
                  obtain ⟨j, hj, rfl, hI⟩ := hrel
                  have HI := Lib.hid hI
                  clear hI
                  by_cases hlt : j < K
                  · have hji : (j : Int) < K := by omega
                    have hmg : Hid (mget mm (j : Int) = some true) := by unfold Hid; rw [HM.out, if_pos (HIN.out j hji)]
                    go_wp2_with (at_lookup; refine wpList_look keyI rfl _ _ 48 4 false rfl Try.underlying48 (.bool false) (zero_bool _) g mm rfl HI.out.mapAt (j : Int) rfl (wf_small (by omega)) (.bool true) (by rw [hmg.out]; rfl) ?_)
                    go_roundw
                    case rel => exact ⟨j + 1, by omega, by go_num, HI.out⟩
                    case measure => simp [intOf]; omega
                  · have hjK : j = K := by omega
                    subst hjK
                    clear hlt hj
                    have HF : Hid (In (fun _ => False) w [SlotsA p ls'] wr) := HI.out.fourth.swap.drop.swap.drop.swap.drop
                    go_wp2_with fail
                    go_outline
                    go_roundw
                    case rel => exact ⟨k + 1, by omega, by go_num, by rw [HS.out], by rw [HS.out]; exact HG2.out, by rw [HS.out]; exact HF.out⟩
                    case measure => simp [intOf]; omega
      · have htf : takes ls x = false := by simpa using ht
        obtain ⟨hb2, hb0⟩ : (x.tmod 2 == 0) = false ∧ ((liveHs ls).length == 0) = false := by
          unfold takes at htf; rw [Bool.or_eq_false_iff] at htf; exact htf
        have hb3 : (((liveHs ls).length : Int) == 0) = false := by simp; simpa using hb0
        have hpos : 0 < (liveHs ls).length := by have := hb0; simp at this; exact List.length_pos_iff.2 this
        have HS : Hid (playS [] (zs.take (k + 1)) = (freeR ls (pick (liveHs ls) x).1 (pick (liveHs ls) x).2).1) := by unfold Hid; rw [HN.out, HX1.out htf]
        have HG2 : Hid (GLe (freeR ls (pick (liveHs ls) x).1 (pick (liveHs ls) x).2).1 (k + 1)) := HG.out.free (pick_mem x hpos)
        obtain ⟨hp0, hp1⟩ := pick_at (hs := liveHs ls) x hpos
        have hpk : Hid (pick (liveHs ls) x = (liveHs ls).getD (x % ((liveHs ls).length : Int)).toNat (0, 0)) := rfl
        have hL0 : (0 : Int) < (liveHs ls).length := by omega
        have HFL : Hid ((freeR ls (pick (liveHs ls) x).1 (pick (liveHs ls) x).2).1.length = ls.length) := free_len _ _ _
        clear ht htf hb0 hpos HX0 HX1 HN
        go_wp2_with fail
        refine (rest_any x ((liveHs ls).length : Nat) _ hL0 (by omega)).mono ?_
        rintro e w' ⟨rfl, rfl⟩
        generalize x % ((liveHs ls).length : Int) = y at *
        obtain ⟨j, rfl⟩ : ∃ j : Nat, y = j := ⟨y.toNat, by omega⟩
        rw [Int.toNat_natCast] at hpk
        obtain ⟨g, rfl, hg2, hg3, hg4, hg5⟩ := HROW.out j (by omega)
        rw [← hpk.out] at hg3
        clear hg4 hg5
        go_wp2_with fail
        refine (free_in HI3.out.swap HOK.out.gens (pick (liveHs ls) x).1 (pick (liveHs ls) x).2).mono ?_
        rintro e w4 ⟨rfl, hI4⟩
        have HI4 := Lib.hid hI4.swap.drop
        clear hI4
        go_wp2_with fail
        go_roundw
        case rel => exact ⟨k + 1, by omega, by go_num, by rw [HS.out, HFL.out], by rw [HS.out]; exact HG2.out, by rw [HS.out]; exact HI4.out⟩
        case measure => simp [intOf]; omega
    · have hkm : k = m := by omega
      subst hkm
      clear hlt hk
      have hl60 := HOK.out.1
      go_wp2_with fail
      refine (gens_in HI.out HOK.out.1).mono ?_
      rintro e w3 ⟨v, rfl, hO, hb3, hI3⟩
      obtain ⟨A3, c3, rfl, hrow⟩ := hO.form
      have hgl : (gensL (playS [] (zs.take k))).length = (playS [] (zs.take k)).length := by rw [gensL_map]; simp
      rw [hgl]
      have heq : (((playS [] (zs.take k)).length : Int) == ((playS [] (zs.take k)).length : Int)) = true := by simp
      have HB := Lib.hid hI3.below0
      clear hgl hrow hO hb3 hI3
      go_wp2_with fail
      go_ret
      exact ⟨rfl, HB.out⟩

end Go.Proofs.Ytmocljblfccglaa
