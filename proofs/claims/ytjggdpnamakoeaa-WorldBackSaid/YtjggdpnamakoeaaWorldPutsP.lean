/-
  The walk of the law WorldPuts.
-/
import Derived.Test.YtjggdpnamakoeaaWP36
namespace Go.Proofs.Ytjggdpnamakoeaa
open Go.RowKit

/-- a row as the law expects it -/
def putRowM (x : Int × Int) (k : Nat) (n : Int) (r : RowM) : RowM := if r.h = x then ⟨r.h, putB r.b k n⟩ else r
theorem add_bit : ∀ (m k : Nat), m < 256 → k < 8 → m.testBit k = false → wrap64 ((m : Int) + wrap64 (2 ^ k)) = ((m ||| 2 ^ k : Nat) : Int) := by
  have h : ∀ (m : Fin 256) (k : Fin 8), m.val.testBit k.val = false → wrap64 ((m.val : Int) + wrap64 (2 ^ k.val)) = ((m.val ||| 2 ^ k.val : Nat) : Int) := by decide +kernel
  exact fun m k hm hk => h ⟨m, hm⟩ ⟨k, hk⟩
theorem rowsAt_get {G : Nat → Prop} {w0 w : World} {l : List Assn} {A : Option Addr} {n c : Nat} {rs : List RowM} (h : In G w0 (RowsA (.slice A n c) rs :: l) w) {k : Nat} (hk : k < rs.length) (h8 : rs[k].b.v.length = 8) : ∃ g, A = some ⟨g, 0, none⟩ ∧ row? w g (k * 11) 11 = some (ints (RowM.list rs[k])) := by
  obtain ⟨A', c', e, _, _, hr⟩ := h.rowsAt
  injection e with e1 e2 e3
  subst e1
  obtain ⟨g, h1, h2⟩ := hr k hk
  refine ⟨g, h1, ?_⟩
  rw [h2, List.getD_eq_getElem?_getD, List.getElem?_eq_getElem hk, Option.getD_some, rowE_eq h8]
set_option maxRecDepth 100000 in
set_option maxRecDepth 100000 in
set_option maxRecDepth 100000 in
set_option maxRecDepth 100000 in
set_option maxRecDepth 100000 in
set_option maxRecDepth 100000 in
set_option maxRecDepth 100000 in
set_option maxRecDepth 100000 in
set_option maxRecDepth 100000 in
set_option maxRecDepth 100000 in
set_option maxRecDepth 100000 in
set_option maxRecDepth 100000 in
set_option maxHeartbeats 4000000 in
set_option maxRecDepth 100000 in
theorem worldPuts_any (A : Option Addr) (c : Nat) (os : List OpM) (x : Int × Int) (kind n : Int) (w : World) (H : OpsIn w w.heap.size A os) (hlen : os.length ≤ 1099511627776) (hb8 : ∀ o ∈ os, o.b.v.length = 8) :
    Calls Try.prog 3 #[.slice A os.length c, hdV x, .int .i64 kind, .int .i64 n] w fun e w' => e = .returned (.bool true) ∧ Below w.heap.size w w' := by
  have H := Lib.hid H
  have H8 := Lib.hid hb8
  clear hb8
  obtain ⟨x1, x2⟩ := x
  rw [hdV_eq]
  go_enter Try.func3, Try.ntmps3
  go_upto_region 1 with (fail)
  refine wp_abs (In (fun _ => False) w [Box w.heap.size 24 (ints [x1, x2])]) ((In.nil w _).alloc 24 (ints [x1, x2])) ?_
  generalize w.heap.size = hb
  intro w1 hI
  have HI0 := Lib.hid hI
  clear hI
  go_wp2_with fail
  refine (lived_any w1).mono ?_
  rintro e w2 ⟨rfl, hb2⟩
  have HI1 := Lib.hid (HI0.out.below hb2)
  clear hb2 HI0
  go_wp2_with fail
  refine (made_in H.out hlen H8.out HI1.out).mono ?_
  rintro e w3 ⟨p, rfl, hI⟩
  have HOK : Hid (WOk (madeW os).1 (madeW os).2) := madeW_ok H8.out
  generalize madeW os = st at *
  obtain ⟨ls, f⟩ := st
  have HI2 := Lib.hid hI
  clear hI HI1 H8 H hlen
  go_wp2_with fail
  refine (all_in HI2.out HOK.out).mono ?_
  rintro e w4 ⟨v, rfl, hI⟩
  have HI3 := Lib.hid hI.swap
  have q1 : row? w4 hb 0 2 = some (ints [x1, x2]) := hI.third.blk.row_all rfl
  clear hI HI2
  go_wp2_with fail
  refine (put_in HI3.out HOK.out x1 x2 kind n).mono ?_
  rintro e w5 ⟨rfl, hI⟩
  have HOK2 := Lib.hid (HOK.out.put (x1, x2) kind n)
  have HSM : Hid ((putW ls f (x1, x2) kind n).2 ≠ 0 → (putW ls f (x1, x2) kind n).1 = f) := put_same
  have HPR : Hid ((putW ls f (x1, x2) kind n).2 = 0 → (0 ≤ kind ∧ kind < 8) ∧ (-1000000000 ≤ n ∧ n ≤ 1000000000) ∧ liveB ls x1 x2 = true ∧ allW ls (putW ls f (x1, x2) kind n).1 = (allW ls f).map fun r => if r.h = (x1, x2) then ⟨r.h, putB r.b kind.toNat n⟩ else r) := put_rows HOK.out
  generalize putW ls f (x1, x2) kind n = pr at *
  obtain ⟨f2, e2⟩ := pr
  simp only at hI HOK2 HSM HPR ⊢
  have HI4 := Lib.hid hI
  clear hI HI3 q1
  go_wp2_with fail
  refine (all_in HI4.out HOK2.out).mono ?_
  rintro e w6 ⟨v2, rfl, hI⟩
  by_cases he : e2 = 0
  case neg =>
    have hf := HSM.out he
    subst hf
    have HE := Lib.hid (eqR_same hI.third hI rfl)
    have HB := Lib.hid hI.below0
    have hne : (e2 != 0) = true := by simp [he]
    clear hI HI4 HSM HPR he
    go_wp2_with fail
    refine HE.out.mono ?_
    rintro e w7 ⟨rfl, hb7⟩
    have HB2 := Lib.hid (HB.out.trans (hb7.mono HB.out.size))
    clear hb7 HE
    go_wp2_with fail
    go_ret
    exact ⟨rfl, HB2.out⟩
  case pos =>
    subst he
    obtain ⟨⟨hk1, hk2⟩, _, _, hrw⟩ := HPR.out rfl
    obtain ⟨k, rfl⟩ : ∃ k : Nat, kind = (k : Int) := ⟨kind.toNat, by omega⟩
    rw [Int.toNat_natCast] at hrw
    have hI := hI
    rw [hrw] at hI
    have HROK : Hid (∀ r ∈ allW ls f, r.b.v.length = 8 ∧ beastErr r.b = 0) := fun r hr => ⟨(allW_ok HOK.out hr).1, (allW_ok HOK.out hr).2.1⟩
    have hr60 := allW_len HOK.out
    have hrw2 : ((allW ls f).map fun r => if r.h = (x1, x2) then ⟨r.h, putB r.b k n⟩ else r) = (allW ls f).map (putRowM (x1, x2) k n) := rfl
    rw [hrw2] at hI
    clear HPR HSM HI4 hrw hrw2
    generalize allW ls f = rs at *
    obtain ⟨rA, rc, rfl, hrc1, hrc2, _⟩ := hI.third.rowsAt
    obtain ⟨sA, sc, rfl, hsc1, hsc2, _⟩ := hI.rowsAt
    have HI5 : Hid (In (fun _ => False) w [RowsA (.slice rA rs.length rc) rs, RowsA (.slice sA rs.length sc) (rs.map (putRowM (x1, x2) k n)), Box hb 24 (ints [x1, x2])] w6) := by
      rw [List.length_map] at hI
      exact hI.swap.drop.swap
    rw [List.length_map] at hsc1 ⊢
    clear hI
    have hri : (rs.length : Int) ≤ 60 := by omega
    have hk8 : k < 8 := by omega
    have hki8 : (k : Int) < 8 := by omega
    have hh : ∀ (a b c d : Int) W, (binOp .eql 24 (.agg (ints [a, b])) (.agg (ints [c, d]))).run Try.prog W = .ok (.bool (decide ((a, b) = (c, d)))) W := fun a b c d W => by rw [eql_handle _ _ rfl rfl W]; simp
    have HHQ := Lib.hid hh
    have hnq : ∀ x : List Int, x.length = 11 → ∀ W, (binOp .neq 37 (.agg (ints x)) (.agg (ints x))).run Try.prog W = .ok (.bool false) W := fun x hx W => by rw [neq_row x x hx hx W]; simp
    have HNQ := Lib.hid hnq
    clear hh hnq hk1 hk2
    go_wp2_with fail
    go_loopw [42] (fun i w' => ∃ j : Nat, j ≤ rs.length ∧ i = .int .i64 j ∧ In (fun _ => False) w [RowsA (.slice rA rs.length rc) rs, RowsA (.slice sA rs.length sc) (rs.map (putRowM (x1, x2) k n)), Box hb 24 (ints [x1, x2])] w') (fun i _ => rs.length - (intOf i).toNat)
    case atStart => exact ⟨0, Nat.zero_le _, rfl, HI5.out⟩
    case round =>
      clear HI5
      obtain ⟨j, hj, rfl, hI⟩ := hrel
      have HI := Lib.hid hI
      clear hI
      by_cases hlt : j < rs.length
      · have hji : (j : Int) < rs.length := by omega
        obtain ⟨h8, hbe⟩ := HROK.out _ (List.getElem_mem hlt)
        obtain ⟨g, rfl, q1⟩ := rowsAt_get HI.out hlt h8
        have HS2 : Hid (∀ wx, In (fun _ => False) w [RowsA (.slice sA rs.length sc) (rs.map (putRowM (x1, x2) k n)), Box hb 24 (ints [x1, x2])] wx → ∃ g', sA = some ⟨g', 0, none⟩ ∧ row? wx g' (j * 11) 11 = some (ints (RowM.list (putRowM (x1, x2) k n rs[j])))) := fun wx hx => by
          have := rowsAt_get (k := j) hx (by rw [List.length_map]; exact hlt) (by
            rw [List.getElem_map]
            unfold putRowM
            split
            · simp [putB, h8]
            · exact h8)
          rw [List.getElem_map] at this
          exact this
        generalize rs[j] = r at *
        obtain ⟨⟨s, gen⟩, b⟩ := r
        simp only at h8 hbe
        have hl11 : (RowM.list ⟨(s, gen), b⟩).length = 11 := by simp [RowM.list, Beast.list, h8]
        go_upto_region 16 with (fail)
        refine wp_abs (In (fun _ => False) w [Box wr.heap.size 37 (ints (RowM.list ⟨(s, gen), b⟩)), RowsA (.slice (some ⟨g, 0, none⟩) rs.length rc) rs, RowsA (.slice sA rs.length sc) (rs.map (putRowM (x1, x2) k n)), Box hb 24 (ints [x1, x2])]) (HI.out.struct 37 [0, 0, 0, 0, 0, 0, 0, 0, 0, 0, 0] _ hl11) ?_
        generalize wr.heap.size = rb
        intro w7 hI7
        have d1 : row? w7 rb 0 2 = some (ints [s, gen]) := by rw [hI7.blk.row_ints 0 2 (by omega)]; rfl
        have d2 : row? w7 hb 0 2 = some (ints [x1, x2]) := hI7.fourth.blk.row_all rfl
        have HI7 := Lib.hid hI7
        have hq := HHQ.out s gen x1 x2
        clear q1 HI
        by_cases hx : (s, gen) = (x1, x2)
        · rw [decide_eq_true hx] at hq
          have HPM : Hid (putRowM (x1, x2) k n ⟨(s, gen), b⟩ = ⟨(s, gen), putB b k n⟩) := by unfold Hid putRowM; rw [if_pos hx]
          rw [HPM.out] at HS2
          clear hx
          have d3 : w7.cell? ⟨rb, 2, none⟩ = some (.int .i64 b.k) := hI7.blk.cell 2
          go_wp2_with fail
          refine (hasKind_any b.k k w7 hk8).mono ?_
          rintro e w' ⟨rfl, rfl⟩
          have hbk := ((beast_iff b).1 hbe).1
          have hm8 : m8 b.k = b.k.toNat := by unfold m8; rw [Int.emod_eq_of_lt hbk.1 (by omega)]
          rw [hm8]
          have hko : b.k = ((b.k.toNat : Nat) : Int) := by omega
          have hkl : b.k.toNat < 256 := by omega
          by_cases ht : b.k.toNat.testBit k = true
          focus
            have HPB : Hid (putB b k n = ⟨b.k, b.v.set k n⟩) := by
              unfold Hid putB
              rw [or_same _ k hkl hk8 ht, ← hko]
            rw [ht]
            have HI8 : Hid (In (fun _ => False) w [Box rb 37 (ints (s :: gen :: (putB b k n).k :: b.v)), RowsA (.slice (some ⟨g, 0, none⟩) rs.length rc) rs, RowsA (.slice sA rs.length sc) (rs.map (putRowM (x1, x2) k n)), Box hb 24 (ints [x1, x2])] w7) := by
              rw [HPB.out]; exact HI7.out
            clear d1 d2 d3 hq HPB ht hko hkl hm8 hbk HI7
            go_upto_region 19 with (fail)
            generalize w7 = w8 at *
          rotate_left
          focus
            have ht' : b.k.toNat.testBit k = false := by simpa using ht
            have HPB : Hid (wrap64 (b.k + wrap64 (2 ^ k)) = (putB b k n).k) := by
              unfold Hid putB
              have := add_bit b.k.toNat k hkl hk8 ht'
              rw [← hko] at this
              exact this
            rw [ht']
            have d4 : w7.frozen? ⟨rb, 2, none⟩ = false := HI7.out.blk.frozen _
            have HSET : Hid (∀ W, W = (w7.setCell ⟨rb, 2, none⟩ (.int .i64 (wrap64 (b.k + wrap64 (2 ^ k))))).drew → In (fun _ => False) w [Box rb 37 (ints (s :: gen :: (putB b k n).k :: b.v)), RowsA (.slice (some ⟨g, 0, none⟩) rs.length rc) rs, RowsA (.slice sA rs.length sc) (rs.map (putRowM (x1, x2) k n)), Box hb 24 (ints [x1, x2])] W) := fun W e => by
              rw [e, HPB.out]
              have := (In.set HI7.out 2 (.int .i64 (putB b k n).k)).drew
              rw [ints_set] at this
              exact this
            clear d1 d2 hq ht ht' hko hkl hm8 hbk HPB
            go_upto_region 18 with (fail)
            go_region
            all_goals
              go_upto_region 19 with (fail)
              refine wp_abs (In (fun _ => False) w [Box rb 37 (ints (s :: gen :: (putB b k n).k :: b.v)), RowsA (.slice (some ⟨g, 0, none⟩) rs.length rc) rs, RowsA (.slice sA rs.length sc) (rs.map (putRowM (x1, x2) k n)), Box hb 24 (ints [x1, x2])]) (HSET.out _ rfl) ?_
              clear d3 d4 HI7 HSET
              intro w8 hI8
              have HI8 := Lib.hid hI8
              clear hI8
          all_goals
            have d5 : w8.frozen? ⟨rb, 3 + k, none⟩ = false := HI8.out.blk.frozen _
            have d6 : w8.cell? ⟨rb, 3 + k, none⟩ = some (.int .i64 (b.v.getD k 0)) := by
              rw [HI8.out.blk.cell, ints_get, show 3 + k = k + 3 by omega]
              simp [List.getD, List.getElem?_eq_getElem (show k < b.v.length by omega)]
            have hset := In.set HI8.out (3 + k) (.int .i64 n)
            rw [ints_set, show 3 + k = k + 3 by omega] at hset
            have HSET : Hid (∀ W, W = w8.setCell ⟨rb, 3 + k, none⟩ (.int .i64 n) → In (fun _ => False) w [Box rb 37 (ints (RowM.list ⟨(s, gen), putB b k n⟩)), RowsA (.slice (some ⟨g, 0, none⟩) rs.length rc) rs, RowsA (.slice sA rs.length sc) (rs.map (putRowM (x1, x2) k n)), Box hb 24 (ints [x1, x2])] W) := fun W e => by
              rw [e, show 3 + k = k + 3 by omega]; exact hset
            have hl11b : (RowM.list ⟨(s, gen), putB b k n⟩).length = 11 := by simp [RowM.list, Beast.list, putB, h8]
            generalize b.v.getD k 0 = y0 at *
            clear hset HI8
            go_upto_region 20 with (fail)
            refine wp_abs (In (fun _ => False) w [Box rb 37 (ints (RowM.list ⟨(s, gen), putB b k n⟩)), RowsA (.slice (some ⟨g, 0, none⟩) rs.length rc) rs, RowsA (.slice sA rs.length sc) (rs.map (putRowM (x1, x2) k n)), Box hb 24 (ints [x1, x2])]) (HSET.out _ rfl) ?_
            clear d5 d6 HSET
            intro w9 hI9
            obtain ⟨g', rfl, q2⟩ := HS2.out w9 hI9.drop.drop
            have q3 : row? w9 rb 0 11 = some (ints (RowM.list ⟨(s, gen), putB b k n⟩)) := hI9.blk.row_all hl11b
            have HI9 := Lib.hid hI9.drop
            have hn := HNQ.out _ hl11b
            clear hI9
            generalize RowM.list ⟨(s, gen), putB b k n⟩ = xs at *
            go_quiet (fail)
            have HI10 := Lib.hid (HI9.out.below (w' := w9.drewN nq) ⟨rfl, rfl, rfl, Nat.le_refl _, fun _ _ => rfl⟩)
            clear q2 q3 hn HI9
            generalize w9.drewN nq = w10 at *
            go_wp2_with fail
            go_roundw
            · exact ⟨j + 1, by omega, by go_num, HI10.out⟩
            · simp [intOf]; omega
        · rw [decide_eq_false hx] at hq
          have HPM : Hid (putRowM (x1, x2) k n ⟨(s, gen), b⟩ = ⟨(s, gen), b⟩) := by unfold Hid putRowM; rw [if_neg hx]
          rw [HPM.out] at HS2
          have hxs : ¬ (s = x1 ∧ gen = x2) := fun h => hx (by rw [h.1, h.2])
          clear hx
          go_upto_region 20 with (fail)
          obtain ⟨g', rfl, q2⟩ := HS2.out w7 HI7.out.drop.drop
          have q3 : row? w7 rb 0 11 = some (ints (RowM.list ⟨(s, gen), b⟩)) := HI7.out.blk.row_all hl11
          have HI9 := Lib.hid HI7.out.drop
          have hn := HNQ.out _ hl11
          clear HI7 d1 d2 hq
          generalize RowM.list ⟨(s, gen), b⟩ = xs at *
          go_quiet (fail)
          have HI10 := Lib.hid (HI9.out.below (w' := w7.drewN nq) ⟨rfl, rfl, rfl, Nat.le_refl _, fun _ _ => rfl⟩)
          clear q2 q3 hn HI9
          generalize w7.drewN nq = w10 at *
          go_wp2_with fail
          go_roundw
          case rel => exact ⟨j + 1, by omega, by go_num, HI10.out⟩
          case measure => simp [intOf]; omega
      · have hjm : j = rs.length := by omega
        subst hjm
        have HB := Lib.hid HI.out.below0
        clear HI
        go_wp2_with fail
        go_ret
        exact ⟨rfl, HB.out⟩

end Go.Proofs.Ytjggdpnamakoeaa
