/-
  The walk of the law WorldKills.
-/
import Derived.Test.YtjggdpnamakoeaaWorldDropsP
import Derived.Test.YtjggdpnamakoeaaAppendOpP
namespace Go.Proofs.Ytjggdpnamakoeaa
open Go.RowKit

theorem row_partW {w : World} {g o n : Nat} {xs : List Int} (h : row? w g o n = some (ints xs)) (a m : Nat) (ham : a + m ≤ n) : row? w g (o + a) m = some (ints ((xs.drop a).take m)) := by
  unfold row? at *
  split at h
  · split at h
    · rename_i hle
      injection h with h
      rw [if_pos (by omega)]
      congr 1
      have h2 : (ints xs).extract a (a + m) = ints ((xs.drop a).take m) := by
        unfold ints
        apply Array.ext'
        simp [List.map_drop, List.map_take, List.extract_eq_take_drop]
      rw [← h2, ← h, Array.extract_extract, Nat.min_eq_left (by omega), Nat.add_assoc]
    · cases h
  · cases h
section
variable {P : Program} {w : World}
theorem addr_add (g o j : Nat) : (⟨g, o, none⟩ : Addr).add j = ⟨g, o + j, none⟩ := by unfold Addr.add; split <;> simp_all
theorem own_cells {E : TypeId} {size n c g : Nat} {xs : List Value} (h : w.ownsRow 0 E size (.slice (some ⟨g, 0, none⟩) n c) n xs) (j : Nat) (y : Value) (hy : xs[j]? = some y) : w.cell? ⟨g, j, none⟩ = some y := by
  obtain ⟨hl, h | ⟨g', cap, cur, e, _, hg, hc1, hc2, hc3, hc4⟩⟩ := h
  · cases h.1
  · injection e with e1 e2 e3
    injection e1 with e1
    injection e1 with e1
    subst e1
    rw [cell_of_row w g j cur E (0, 0) hg, ← hy, ← hc4, List.getElem?_take, if_pos]
    · simp
    · have := (List.getElem?_eq_some_iff.1 hy).1; omega
theorem step_append_src {ops : Array Oper} {o : Oper} {a : Act} {K : Act → World → Prop} {Q : Exit → Act → World → Prop} {X : Prop} (hw : Region.wanted o (yielded ops a.tmps) = true) (s x : Operand) (t : TypeId) (ho : o.op = .call { callee := .builtin .append, args := #[s, x], argTypes := #[t, t] })
    (E : TypeId) (i : TypeInfo) (z : Value) (size bytes : Nat) (ht : P.underlying t = some (.slice E)) (hi : P.info? E = some i) (hz : i.zero = some z)
    (hsize : i.size = size) (hby : i.bytes = bytes) (hzs : z.cells.size = size) (hsz : 0 < size) {v : Value} {n m cap : Nat} {xs news : List Value} {src : Addr} (hs : a.eval s = v) (hx : a.eval x = .slice (some src) m cap) (hown : w.ownsRow 0 E size v n xs)
    (hl : news.length = m * size) (hsrc : ∀ j y, news[j]? = some y → w.cell? (src.add j) = some y) (h1 : ∀ x ∈ news, x.oneCell' = true) (h63 : n + m ≤ maxLen) (hbytes : (n + m) * bytes ≤ 140737488355328)
    (h : ∀ v' w', w'.ownsRow 0 E size v' (n + m) (xs ++ news) → w.grownBy w' v.ownBlock → (v'.ownBlock = v.ownBlock ∨ v'.ownBlock = some w.heap.size) → K (a.put o.dst v') w') : if Region.wanted o (yielded ops a.tmps) = true then Oper.wp P o a w K Q else X := by
  rw [if_pos hw]
  obtain ⟨v', w', hr, h2, h3, _, h5⟩ := run_append_own_at (P := P) w 0 t o.type E i z size bytes ht hi hz hsize hby hzs hsz v n xs hown src m cap news hl hsrc h1 h63 hbytes (Nat.zero_le _)
  unfold Oper.wp
  simp [execOp, ho, resolve, invoke, builtin, hs, hx, hr, Result.andThen]
  exact h v' w' h2 h3 h5
end
theorem flatR_len (rs : List RowM) : (rs.flatMap rowC).length = rs.length * 11 := by
  induction rs with
  | nil => rfl
  | cons r rs ih => rw [List.flatMap_cons, List.length_append, rowC_len, ih, List.length_cons]; omega
theorem flatR_take (rs : List RowM) (k j : Nat) (y : Value) (h : ((rs.take k).flatMap rowC)[j]? = some y) : (rs.flatMap rowC)[j]? = some y := by
  conv => lhs; rw [← List.take_append_drop k rs]
  rw [List.flatMap_append, List.getElem?_append_left (List.getElem?_eq_some_iff.1 h).1]
  exact h
theorem flatR_drop (rs : List RowM) (k j : Nat) (hk : k ≤ rs.length) (y : Value) (h : ((rs.drop k).flatMap rowC)[j]? = some y) : (rs.flatMap rowC)[k * 11 + j]? = some y := by
  have hl : ((rs.take k).flatMap rowC).length = k * 11 := by rw [flatR_len, List.length_take, Nat.min_eq_left hk]
  conv => lhs; rw [← List.take_append_drop k rs]
  rw [List.flatMap_append, List.getElem?_append_right (by omega), hl, Nat.add_sub_cancel_left]
  exact h
theorem rowC_one (rs : List RowM) : ∀ x ∈ rs.flatMap rowC, x.oneCell' = true := by
  intro x hx
  obtain ⟨r, _, hr⟩ := List.mem_flatMap.1 hx
  obtain ⟨y, _, rfl⟩ := List.mem_map.1 hr
  rfl
theorem take_gone {ls : List (Int × Bool)} {k : Nat} {g : Int} (hk : k < ls.length) (hg : (sl ls k).1 ≠ g) : k < (takeR ls).1.length ∧ (sl (takeR ls).1 k).1 ≠ g := by
  unfold takeR
  split
  · simp only [List.length_set]
    refine ⟨hk, ?_⟩
    rw [sl, List.getD_eq_getElem?_getD]
    by_cases e : ls.findIdx freeB = k
    · rw [List.getElem?_set, if_pos e, if_pos (by omega), e]
      exact hg
    · rw [List.getElem?_set_ne e, ← List.getD_eq_getElem?_getD]; exact hg
  · split
    · exact ⟨hk, hg⟩
    · simp only [List.length_append]
      refine ⟨by omega, ?_⟩
      rw [sl, List.getD_eq_getElem?_getD, List.getElem?_append_left hk, ← List.getD_eq_getElem?_getD]
      exact hg
theorem spawn_gone {ls : List (Int × Bool)} {f : BF} {b : Beast} {k : Nat} {g : Int} (hk : k < ls.length) (hg : (sl ls k).1 ≠ g) : liveB (spawnW ls f b).1.1 (k : Int) g = false := by
  have h : k < (spawnW ls f b).1.1.length ∧ (sl (spawnW ls f b).1.1 k).1 ≠ g := by
    unfold spawnW
    split
    · exact ⟨hk, hg⟩
    · split
      · exact take_gone hk hg
      · exact take_gone hk hg
  rw [liveB_iff h.1, decide_eq_false h.2]; rfl
theorem kill_spawn {ls : List (Int × Bool)} {f : BF} {b : Beast} {s g : Int} (hl : liveB ls s g = true) : liveB (spawnW (killW ls f (s, g)).1.1 (killW ls f (s, g)).1.2 b).1.1 s g = false := by
  obtain ⟨k, rfl, hk, _⟩ := live_true hl
  unfold killW
  rw [if_pos hl]
  simp only
  unfold freeR
  rw [if_pos hl]
  simp only [Int.toNat_natCast]
  refine spawn_gone (by rw [List.length_set]; exact hk) ?_
  rw [sl, List.getD_eq_getElem?_getD, List.getElem?_set, if_pos rfl, if_pos hk]
  simp only [Option.getD_some]
  omega
set_option maxHeartbeats 4000000 in
set_option maxRecDepth 100000 in
theorem worldKills_any (A : Option Addr) (c : Nat) (os : List OpM) (kk : Int) (b : Beast) (w : World) (H : OpsIn w w.heap.size A os) (hlen : os.length ≤ 1099511627776) (hb8 : ∀ o ∈ os, o.b.v.length = 8) (h8 : b.v.length = 8) :
    Calls Try.prog 6 #[.slice A os.length c, .int .i64 kk, .agg (ints b.list)] w fun e w' => e = .returned (.bool true) ∧ Below w.heap.size w w' := by
  have H := Lib.hid H
  have H8 := Lib.hid hb8
  clear hb8
  have hl9 : b.list.length = 9 := by simp [Beast.list, h8]
  go_enter Try.func6, Try.ntmps6
  go_upto_region 1 with (fail)
  refine wp_abs (In (fun _ => False) w [Box w.heap.size 35 (ints b.list)]) ((In.nil w _).alloc 35 (ints b.list)) ?_
  generalize w.heap.size = bb
  intro w1 hI
  have HI0 := Lib.hid hI
  clear hI
  go_wp2_with fail
  refine (lived_any w1).mono ?_
  rintro e w2 ⟨rfl, hb2⟩
  have HI1 := Lib.hid (HI0.out.below hb2)
  clear hb2 HI0
  go_wp2_with fail
  refine (made_in H.out hlen H8.out HI1.out).mono ?_
  rintro e w3 ⟨p, rfl, hI⟩
  have HOK : Hid (WOk (madeW os).1 (madeW os).2) := madeW_ok H8.out
  generalize madeW os = st at *
  obtain ⟨ls, f⟩ := st
  have HI2 := Lib.hid hI
  clear hI HI1 H8 H hlen
  go_wp2_with fail
  refine (all_in HI2.out HOK.out).mono ?_
  rintro e w4 ⟨v, rfl, hI⟩
  obtain ⟨rA, rc, rfl, hrc1, hrc2, _⟩ := hI.rowsAt
  have HI3 := Lib.hid hI.swap
  have hr60 := allW_len HOK.out
  clear hI HI2
  by_cases h0 : (allW ls f).length = 0
  · have h0i : ((allW ls f).length : Int) = 0 := by omega
    have HB := Lib.hid HI3.out.below0
    clear HI3
    rw [h0]
    go_wp2_with fail
    go_ret
    exact ⟨rfl, HB.out⟩
  · have hne : (((allW ls f).length : Int) == 0) = false := beq_eq_false_iff_ne.2 (by omega)
    have hpos : 0 < (allW ls f).length := by omega
    go_wp2_with fail
    refine (rest_any kk ((allW ls f).length : Int) w4 (by omega) (by omega)).mono ?_
    rintro e w' ⟨rfl, rfl⟩
    obtain ⟨k, hkl, hke⟩ : ∃ k : Nat, k < (allW ls f).length ∧ kk % ((allW ls f).length : Int) = (k : Int) :=
      ⟨(kk % ((allW ls f).length : Int)).toNat, by have := Int.emod_lt_of_pos kk (show (0 : Int) < (allW ls f).length by omega); have := Int.emod_nonneg kk (show ((allW ls f).length : Int) ≠ 0 by omega); omega, by have := Int.emod_nonneg kk (show ((allW ls f).length : Int) ≠ 0 by omega); omega⟩
    rw [hke]
    have hki : (k : Int) < (allW ls f).length := by omega
    obtain ⟨g, rfl, q1⟩ := rowsAt_get HI3.out.swap hkl (allW_ok HOK.out (List.getElem_mem hkl)).1
    have q2 : row? w4 g (k * 11) 2 = some (ints [(allW ls f)[k].h.1, (allW ls f)[k].h.2]) := by
      have := row_partW q1 0 2 (by omega)
      rw [Nat.add_zero] at this
      exact this
    obtain ⟨hk0, hkr⟩ := kill_rows HOK.out hkl
    have HLIVE := Lib.hid (allW_ok HOK.out (List.getElem_mem hkl)).2.2.1
    clear hke h0 hne q1
    have HOK2 : Hid (WOk (killW ls f (allW ls f)[k].h).1.1 (killW ls f (allW ls f)[k].h).1.2) := HOK.out.kill _
    have HROK : Hid (∀ r ∈ allW ls f, r.b.v.length = 8) := fun r hr => (allW_ok HOK.out hr).1
    have HDEAD : Hid (∀ x, x = (allW ls f)[k].h → liveB (spawnW (killW ls f x).1.1 (killW ls f x).1.2 b).1.1 x.1 x.2 = false) := fun x hx => by
      subst hx
      exact kill_spawn HLIVE.out
    generalize allW ls f = rs at *
    generalize hxd : rs[k].h = x at *
    obtain ⟨s, gen⟩ := x
    have HDEAD := HDEAD.out (s, gen) rfl
    have HK0 : Hid ((killW ls f (s, gen)).2 = 0) := hk0
    simp only at HDEAD HOK2 HLIVE hkr q2
    obtain ⟨⟨⟨ls2, f2⟩, e2⟩, hkr2⟩ : ∃ kr, killW ls f (s, gen) = kr := ⟨_, rfl⟩
    have HKW := Lib.hid hkr2
    rw [hkr2] at HDEAD HOK2 HK0 hkr
    simp only at HDEAD HOK2 HK0 hkr
    have he2 : e2 = 0 := HK0.out
    subst he2
    have HOK3 := Lib.hid (HOK2.out.spawn (b := b) h8)
    have HSP : Hid (∀ sr, spawnW ls2 f2 b = sr → liveB sr.1.1 s gen = false ∧ WOk sr.1.1 sr.1.2) := fun sr e => by rw [← e]; exact ⟨HDEAD, HOK3.out⟩
    have HRW := Lib.hid hkr
    clear hkr hkr2 hk0 HK0 HDEAD HLIVE hxd HOK3
    have hc1 : (k : Int) + 1 ≤ rs.length := by omega
    have hc2 : (rs.length : Int) ≤ rc := by omega
    have hc3 : (k : Int) ≤ rc := by omega
    have hc4 : (0 : Int) ≤ k := by omega
    have hc5 : (0 : Int) ≤ (k : Int) + 1 := by omega
    have hw1 : IntKind.i64.wrap ((k : Int) + 1) = (k : Int) + 1 := IntWalk.i64_in _ (by omega)
    go_upto_region 11 with (fail)
    refine wp_abs (In (fun _ => False) w [Box w4.heap.size 24 (ints [s, gen]), WorldA p ls f, RowsA (.slice (some ⟨g, 0, none⟩) rs.length rc) rs, Box bb 35 (ints b.list)]) (HI3.out.struct 24 [0, 0] [s, gen] rfl) ?_
    generalize w4.heap.size = hb
    intro w5 hI5
    have HI5 := Lib.hid hI5.swap
    have q3 : row? w5 hb 0 2 = some (ints [s, gen]) := hI5.blk.row_all rfl
    clear hI5 HI3 q2
    have HFS : Hid (∀ (W : World) (ls' : List (Int × Bool)) (g : BF) (l : List Assn), In (fun _ => False) w (WorldA p ls' g :: Box hb 24 (ints [s, gen]) :: l) W → row? W hb 0 2 = some (ints [s, gen])) := fun W _ _ _ hW => hW.swap.blk.row_all rfl
    obtain ⟨i0, hi0, hz0, hz1, hz2⟩ := info_parts row_parts
    have HSRC : Hid (∀ (W : World) (l : List Assn), In (fun _ => False) w (RowsA (.slice (some ⟨g, 0, none⟩) rs.length rc) rs :: l) W → ∀ j y, (rs.flatMap rowC)[j]? = some y → W.cell? ⟨g, j, none⟩ = some y) := fun W l hW j y hy => own_cells hW.rowAt j y hy
    have HL1 : Hid (((rs.take k).flatMap rowC).length = k * 11) := by unfold Hid; rw [flatR_len, List.length_take, Nat.min_eq_left (by omega)]
    have HL2 : Hid (((rs.drop (k + 1)).flatMap rowC).length = (rs.length - (k + 1)) * 11) := by unfold Hid; rw [flatR_len, List.length_drop]
    have HM1 : Hid (0 + k ≤ maxLen) := by unfold Hid maxLen; omega
    have HM2 : Hid ((0 + k) * 88 ≤ 140737488355328) := by unfold Hid; omega
    have HM3 : Hid (0 + k + (rs.length - (k + 1)) ≤ maxLen) := by unfold Hid maxLen; omega
    have HM4 : Hid ((0 + k + (rs.length - (k + 1))) * 88 ≤ 140737488355328) := by unfold Hid; omega
    have HCONV : Hid (∀ (W : World) (l : List Assn) (v : Value), In (fun _ => False) w (RowA 37 11 v (0 + k + (rs.length - (k + 1))) (([] ++ (rs.take k).flatMap rowC) ++ (rs.drop (k + 1)).flatMap rowC) :: l) W → In (fun _ => False) w (RowsA v (rs.take k ++ rs.drop (k + 1)) :: l) W) := fun W l v hW => by
      unfold RowsA
      rw [List.length_append, List.length_take, List.length_drop, Nat.min_eq_left (show k ≤ rs.length by omega), List.flatMap_append]
      rw [Nat.zero_add, List.nil_append] at hW
      exact hW
    have HNIL : Hid (rc = k + 1 → rs.drop (k + 1) = []) := fun h => List.drop_eq_nil_of_le (by omega)
    by_cases hcap : rc = k + 1
    case' pos =>
      have hcn : (rc = k + 1) = True := by simp; omega
      have HCAP := Lib.hid hcap
      clear hcap
    case' neg =>
      have hcn : (rc = k + 1) = False := by simp; omega
      have HCAP : Hid True := trivial
      clear hcap
    all_goals
      go_region_held3 (fun W => row? W hb 0 2 = some (ints [s, gen])) (assumption)
        (first
          | (go_at_call 13; refine (eqR_same H6.out.swap (HCONV.out _ _ _ H6.out) HRW.out).mono ?_; rintro e w14 ⟨rfl, hb14⟩; have H7 := Lib.hid ((H6.out.below hb14).drop.drop); have s1 := HFS.out _ _ _ _ (H6.out.below hb14).drop.drop; clear hb14)
          | (refine step_append_src (by kernel_rfl) _ _ 28 rfl 37 i0 _ 11 88 Try.underlying28 hi0 hz0 hz1 hz2 rfl (by decide) (news := (rs.drop (k + 1)).flatMap rowC) rfl rfl H5.out.rowAt HL2.out (fun j y hy => by (first | (have h0 := HNIL.out HCAP.out; rw [h0] at hy; simp at hy; done) | (rw [addr_add]; exact HSRC.out _ _ (In.nth H5.out 4 (by simp)) _ _ (flatR_drop rs (k + 1) j (by omega) y hy)))) (rowC_one _) HM3.out HM4.out ?_; intro v7 w13 ho7 hg7 hor7; have H6 := Lib.hid (In.appendN H5.out ho7 hg7 hor7); have s1 := HFS.out _ _ _ _ (In.appendN H5.out ho7 hg7 hor7).drop.drop; clear ho7 hg7 hor7)
          | (refine step_append_src (by kernel_rfl) _ _ 28 rfl 37 i0 _ 11 88 Try.underlying28 hi0 hz0 hz1 hz2 rfl (by decide) (news := (rs.take k).flatMap rowC) rfl rfl H4.out.rowAt HL1.out (fun j y hy => by rw [addr_add, Nat.zero_add]; exact HSRC.out _ _ (In.nth H4.out 4 (by simp)) j y (flatR_take rs k j y hy)) (rowC_one _) HM1.out HM2.out ?_; intro v6 w12 ho6 hg6 hor6; have H5 := Lib.hid (In.appendN H4.out ho6 hg6 hor6); have s1 := HFS.out _ _ _ _ (In.appendN H4.out ho6 hg6 hor6).drop.drop; clear ho6 hg6 hor6)
          | (go_at_call 11; refine (all_in H3.out HOK2.out).mono ?_; rintro e w11 ⟨v5, rfl, hI11⟩; have H4 := Lib.hid (hI11.nilRow 37 11); have s1 := HFS.out _ _ _ _ hI11.drop; clear hI11)
          | (go_at_call 21; refine (kill_in HI5.out.drew HOK.out s gen).mono ?_; rintro e w10 ⟨rfl, hI10⟩; rw [HKW.out] at hI10 ⊢; simp only at hI10 ⊢; have H3 := Lib.hid hI10; have s1 := HFS.out _ _ _ _ hI10; clear hI10))
      go_upto_region 13 with (fail)
      refine wp_abs (In (fun _ => False) w [WorldA p ls2 f2, Box hb 24 (ints [s, gen]), RowsA (.slice (some ⟨g, 0, none⟩) rs.length rc) rs, Box bb 35 (ints b.list)]) H7.out ?_
      clear s1 H7 H6 H5 H4 H3 HI5 q3
      intro w15 hI15
      have q5 : row? w15 bb 0 9 = some (ints b.list) := hI15.fourth.blk.row_all hl9
      have HI15 := Lib.hid hI15
      clear hI15
      go_wp2_with fail
      refine (spawn_in HI15.out HOK2.out b h8).mono ?_
      rintro e w16 ⟨rfl, hI16⟩
      obtain ⟨hdead, hok3⟩ := HSP.out _ rfl
      generalize spawnW ls2 f2 b = sr at *
      obtain ⟨⟨ls3, f3⟩, h3, e3⟩ := sr
      simp only at hdead hok3 hI16 ⊢
      have HOK3 := Lib.hid hok3
      have HG : Hid (getW ls3 f3 (s, gen) = (zeroBst, 7)) := getW_dead hdead
      have HK : Hid (killW ls3 f3 (s, gen) = ((ls3, f3), 7)) := killW_dead hdead
      have HP : Hid (putW ls3 f3 (s, gen) 0 0 = (f3, 7)) := putW_dead 0 0 hdead
      have q6 : row? w16 hb 0 2 = some (ints [s, gen]) := HFS.out _ _ _ _ hI16
      have HI16 := Lib.hid hI16
      clear hI16 hdead hok3 HI15 q5
      go_wp2_with fail
      refine (get_in HI16.out HOK3.out s gen).mono ?_
      rintro e w17 ⟨rfl, hI17⟩
      rw [HG.out]
      simp only
      have HI17 := Lib.hid hI17
      clear hI17 HI16 q6
      go_upto_region 15 with (fail)
      refine wp_abs (In (fun _ => False) w [WorldA p ls3 f3, Box hb 24 (ints [s, gen]), RowsA (.slice (some ⟨g, 0, none⟩) rs.length rc) rs, Box bb 35 (ints b.list)]) ((HI17.out.struct 35 [0, 0, 0, 0, 0, 0, 0, 0, 0] zeroBst.list rfl).drop) ?_
      intro w18 hI18
      have q7 : row? w18 hb 0 2 = some (ints [s, gen]) := HFS.out _ _ _ _ hI18
      have HI18 := Lib.hid hI18
      clear hI18 HI17
      go_wp2_with fail
      refine (kill_in HI18.out HOK3.out s gen).mono ?_
      rintro e w19 ⟨rfl, hI19⟩
      rw [HK.out] at hI19 ⊢
      simp only at hI19 ⊢
      have q8 : row? w19 hb 0 2 = some (ints [s, gen]) := HFS.out _ _ _ _ hI19
      have HI19 := Lib.hid hI19
      clear hI19 HI18 q7
      go_wp2_with fail
      refine (put_in HI19.out HOK3.out s gen 0 0).mono ?_
      rintro e w20 ⟨rfl, hI20⟩
      rw [HP.out]
      simp only
      have HB := Lib.hid hI20.below0
      clear hI20 HI19 q8
      go_wp2_with fail
      go_ret
      exact ⟨rfl, HB.out⟩

end Go.Proofs.Ytjggdpnamakoeaa
