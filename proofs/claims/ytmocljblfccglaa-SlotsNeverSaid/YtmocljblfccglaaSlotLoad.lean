/-
  The contract of slots.Load.
-/
import Derived.Test.YtmocljblfccglaaSlotFind
import Derived.Test.YtmocljblfccglaaCol
namespace Go.Proofs.Ytmocljblfccglaa
open Go.RowKit

def markN : List (Int × Bool) → List Int → Option (List (Int × Bool))
  | ls, [] => some ls
  | ls, k :: r => if (ls.getD k.toNat (0, false)).2 then none else markN (ls.set k.toNat ((ls.getD k.toNat (0, false)).1, true)) r
def loadR (gens live : List Int) : Option (List (Int × Bool)) × Int :=
  if 60 < gens.length then (none, 2) else if anyOf badGen gens then (none, 1) else if anyOf (badIx gens.length) live then (none, 5)
  else match markN (gens.map fun g => (g, false)) live with
    | none => (none, 6)
    | some ls => if hasSlot 1000000 true ls then (none, 1) else (some ls, 0)
theorem markN_len : ∀ (live : List Int) (ls ls' : List (Int × Bool)), markN ls live = some ls' → ls'.length = ls.length
  | [], ls, ls', h => by simp [markN] at h; rw [h]
  | k :: r, ls, ls', h => by
    unfold markN at h
    split at h
    · cases h
    · rw [markN_len r _ _ h]; simp
def LoadEnd (w : World) (x : Option (List (Int × Bool)) × Int) (e : Ending) (w' : World) : Prop :=
  Below w.heap.size w w' ∧ match x with
    | (none, n) => e = .returned (.tuple #[.pointer none, .int .i64 n])
    | (some ls, n) => ∃ p, e = .returned (.tuple #[.pointer (some ⟨p, 0, none⟩), .int .i64 n]) ∧ SlotsAt w' p ls (fun k => w.heap.size ≤ k)

theorem markN_append : ∀ (a b : List Int) (ls : List (Int × Bool)), markN ls (a ++ b) = (markN ls a).bind fun l => markN l b
  | [], b, ls => rfl
  | k :: a, b, ls => by
    rw [List.cons_append, markN, markN]
    split
    · rfl
    · exact markN_append a b _
theorem markN_none {base ls : List (Int × Bool)} {l : List Int} {k : Nat} (hk : k < l.length) (h : markN base (l.take k) = some ls) (hx : (ls.getD l[k].toNat (0, false)).2 = true) : markN base l = none := by
  rw [← List.take_append_drop k l, markN_append, h, List.drop_eq_getElem_cons hk, Option.bind_some, markN, if_pos hx]
theorem markN_step {base ls : List (Int × Bool)} {l : List Int} {k : Nat} (hk : k < l.length) (h : markN base (l.take k) = some ls) (hx : (ls.getD l[k].toNat (0, false)).2 = false) :
    markN base (l.take (k + 1)) = some (ls.set l[k].toNat ((ls.getD l[k].toNat (0, false)).1, true)) := by
  rw [List.take_succ_eq_append_getElem hk, markN_append, h, Option.bind_some, markN, if_neg (by rw [hx]; simp), markN]
theorem badIx_no {n : Nat} {l : List Int} (h : anyOf (badIx n) l = false) {x : Int} (hx : x ∈ l) : 0 ≤ x ∧ x < n := by
  unfold anyOf at h
  rw [List.any_eq_false] at h
  have := h x hx
  simp [badIx] at this
  omega

theorem load_any (A A' : Option Addr) (c c' : Nat) (gens live : List Int) (w : World) (h : ReadsI w w.heap.size A gens.length gens) (h' : ReadsI w w.heap.size A' live.length live) (hn : gens.length ≤ maxLen) (hn' : live.length ≤ maxLen) :
    Calls Try.prog 28 #[.slice A gens.length c, .slice A' live.length c'] w (LoadEnd w (loadR gens live)) := by
  have H := Lib.hid h
  have H' := Lib.hid h'
  have HN := Lib.hid hn
  have HN' := Lib.hid hn'
  have hm1 : (gens.length : Int) ≤ 9223372036854775807 := by unfold maxLen at hn; omega
  have hm2 : (live.length : Int) ≤ 9223372036854775807 := by unfold maxLen at hn'; omega
  clear h h' hn hn'
  by_cases h60 : 60 < gens.length
  · have HR : Hid (loadR gens live = (none, 2)) := by unfold Hid loadR; rw [if_pos h60]
    have h60' : (60 : Int) < gens.length := by omega
    go_enter Try.func28, Try.ntmps28
    go_wp2_with fail
    go_ret2
    rw [HR.out]
    exact ⟨(Below.refl _ _).alloc (Nat.le_refl _) _, rfl⟩
  have h60' : (gens.length : Int) ≤ 60 := by omega
  have h60n : gens.length ≤ 60 := by omega
  go_enter Try.func28, Try.ntmps28
  go_upto_region 1 with (fail)
  refine wp_abs (fun w' => Blk w' w.heap.size 22 #[.slice A gens.length c] ∧ Below w.heap.size w w') ⟨Blk.new _ _ _, (Below.refl _ _).alloc (Nat.le_refl _) _⟩ ?_
  rintro w1 ⟨hB1, hb1⟩
  have HB1 := Lib.hid hB1
  have HO1 := Lib.hid hb1
  have c1 : w1.cell? ⟨w.heap.size, 0, none⟩ = some (.slice A gens.length c) := hB1.cell 0
  have r1 : ReadsI w1 w1.heap.size A gens.length gens := (H.out.below hb1).more hb1.size
  have r2 : ReadsI w1 w1.heap.size A' live.length live := (H'.out.below hb1).more hb1.size
  have R1 := Lib.hid r1
  have R2 := Lib.hid r2
  clear hB1 hb1 r1 r2
  go_wp2_with fail
  refine (containsFunc1_any A c gens w1 R1.out HN.out).mono ?_
  rintro e w' ⟨rfl, rfl⟩
  cases hG : anyOf badGen gens
  rotate_left
  · have HR : Hid (loadR gens live = (none, 1)) := by unfold Hid loadR; rw [if_neg h60, if_pos hG]
    clear hG
    go_wp2_with fail
    go_ret2
    rw [HR.out]
    exact ⟨HO1.out, rfl⟩
  have HG := Lib.hid hG
  clear hG
  go_wp2_with fail
  refine (containsFunc2_any w.heap.size gens.length A c A' c' live w1 c1 h60n R2.out HN'.out).mono ?_
  rintro e w' ⟨rfl, rfl⟩
  cases hI : anyOf (badIx gens.length) live
  rotate_left
  · have HR : Hid (loadR gens live = (none, 5)) := by unfold Hid loadR; rw [if_neg h60, if_neg (by rw [HG.out]; simp), if_pos hI]
    clear hI
    go_wp2_with fail
    go_ret2
    rw [HR.out]
    exact ⟨HO1.out, rfl⟩
  have HI := Lib.hid hI
  clear hI
  go_wp2_with fail
  refine (new_any w1).mono ?_
  rintro e w2 ⟨rfl, hs2, hb2⟩
  have HS2 : Hid (SlotsAt w2 w1.heap.size [] (fun q => w1.heap.size ≤ q)) := hs2.mono fun k _ hk => by rcases hk with hk | hk; exact absurd hk (by simp); exact hk.1
  have HB2 := Lib.hid hb2
  clear hs2 hb2
  have c2 : w2.cell? ⟨w.heap.size, 0, none⟩ = some (.slice A gens.length c) := (HB2.out.cell (p := ⟨w.heap.size, 0, none⟩) (World.block_lt_of_cell? _ _ c1)).trans c1
  generalize hp : w1.heap.size = p at *
  have HP := Lib.hid hp
  clear hp c1
  go_wp2_with fail
  go_loopw [25] (fun i w' => ∃ k : Nat, k ≤ gens.length ∧ i = .int .i64 k ∧ SlotsAt w' p ((gens.take k).map fun g => (g, false)) (fun q => p ≤ q) ∧ Below p w1 w') (fun i _ => gens.length - (intOf i).toNat)
  case atStart => exact ⟨0, by omega, rfl, HS2.out, HB2.out⟩
  case round =>
    clear c2
    obtain ⟨k, hk, rfl, hs, hb⟩ := hrel
    have HS := Lib.hid hs
    have HB := Lib.hid hb
    clear hs hb
    by_cases hlt : k < gens.length
    · have hki : (k : Int) < gens.length := by omega
      obtain ⟨g, o, rfl, hgl, hkl, hc⟩ := R1.out.at_ hlt
      have hc' : wr.cell? ⟨g, o + k, none⟩ = some (.int .i64 gens[k]) := (HB.out.cell (p := ⟨g, o + k, none⟩) hgl).trans hc
      have hN : Hid ((gens.take (k + 1)).map (fun g => (g, false)) = (gens.take k).map (fun g => (g, false)) ++ [(gens[k], false)]) := by
        unfold Hid; rw [List.take_succ_eq_append_getElem hkl, List.map_append]; rfl
      have hlen : Hid (((gens.take k).map fun g => (g, false)).length = k) := by unfold Hid; simp; omega
      clear hc
      generalize hL' : (gens.take (k + 1)).map (fun g => (g, false)) = ls' at *
      have HL' := Lib.hid hL'
      clear hL'
      generalize (gens.take k).map (fun g => (g, false)) = ls at *
      generalize gens[k] = x at *
      have hcol : ColAt 76 78 2 slotC wr p ls (fun q => p ≤ q) := HS.out
      obtain ⟨A2, c3, f1, f2, f3, f4, f5, f6, f7, f8⟩ := hcol.slice
      have HC := Lib.hid hcol
      have F5 := Lib.hid f5
      have hll : ls.length ≤ 60 := by rw [hlen.out]; omega
      obtain ⟨i0, hi0, hz0, hz1, hz2⟩ := info_parts slot_parts
      clear hcol f5 f6 f7 f8 f2 f3 f4
      go_wp2_with (at_builtin; refine wpList_append1_at rfl _ _ _ rfl 0 78 i0 _ 2 16 Try.underlying74 hi0 hz0 hz1 hz2 rfl (by decide) (.slice A2 ls.length c3) ls.length (ls.flatMap slotC) rfl F5.out [.int .i64 x, .bool false] rfl rfl (by simp [Value.oneCell']) (by unfold maxLen; omega) (by omega) (Nat.zero_le _) ?_)
      intro v' w3 hown3 hg3 hat
      obtain ⟨A4, c4, rfl, _, _, _⟩ := own_form hown3
      obtain ⟨g1, g2, g3, g4⟩ := HC.out.append (x := (x, false)) f1 hown3 hg3 hat
      have G3 : Hid (SlotsAt (w3.setCell ⟨p, 0, none⟩ (.slice A4 (ls.length + 1) c4)) p ls' (fun q => p ≤ q)) := by unfold Hid; rw [hN.out]; exact g3.mono fun k _ hk => by rcases hk with hk | hk; exact hk; have := HC.out.lt; omega
      have G4 : Hid (Below p w1 (w3.setCell ⟨p, 0, none⟩ (.slice A4 (ls.length + 1) c4))) := HB.out.trans (g4.below (by have := HC.out.lt; omega) fun k _ h => h)
      clear g3 g4 hown3 hg3 hat f1
      go_wp2_with fail
      go_roundw
      case rel => exact ⟨k + 1, by omega, by go_num, by rw [HL'.out]; exact G3.out, G4.out⟩
      case measure => simp [intOf]; omega
    · have hkn : k = gens.length := by omega
      subst hkn
      rw [List.take_length] at HS
      clear hlt hk
      go_wp2_with fail
      have HN2 : Hid (((gens.map fun g => (g, false)) : List (Int × Bool)).length = gens.length) := by unfold Hid; rw [List.length_map]
      have HR0 : Hid (loadR gens live = match markN (gens.map fun g => (g, false)) live with | none => (none, 6) | some ls => if hasSlot 1000000 true ls then (none, 1) else (some ls, 0)) := by
        unfold Hid loadR; rw [if_neg h60, if_neg (by rw [HG.out]; simp), if_neg (by rw [HI.out]; simp)]
      generalize (gens.map fun g => (g, false)) = base at *
      go_loopw [43] (fun i w' => ∃ k : Nat, k ≤ live.length ∧ i = .int .i64 k ∧ ∃ ls, markN base (live.take k) = some ls ∧ SlotsAt w' p ls (fun q => p ≤ q) ∧ Below p w1 w') (fun i _ => live.length - (intOf i).toNat)
      case atStart => exact ⟨0, by omega, rfl, base, rfl, HS.out, HB.out⟩
      case round =>
        obtain ⟨k, hk, rfl, ls, hmk, hs, hb⟩ := hrel
        have HS := Lib.hid hs
        have HB := Lib.hid hb
        have HM := Lib.hid hmk
        have hll : Hid (ls.length = gens.length) := (markN_len _ _ _ hmk).trans HN2.out
        clear hs hb hmk
        obtain ⟨A2, c3, f1, f2, f3, f4, f5, f6, f7⟩ := HS.out.facts
        have F5 := Lib.hid f5
        by_cases hlt : k < live.length
        · have hki : (k : Int) < live.length := by omega
          obtain ⟨g, o, rfl, hgl, hkl, hc⟩ := R2.out.at_ hlt
          have hc' : wr.cell? ⟨g, o + k, none⟩ = some (.int .i64 live[k]) := (HB.out.cell (p := ⟨g, o + k, none⟩) hgl).trans hc
          obtain ⟨hx0, hx1⟩ := badIx_no HI.out (List.getElem_mem hkl)
          have HNo : Hid ((ls.getD live[k].toNat (0, false)).2 = true → markN base live = none) := fun h => markN_none hkl HM.out h
          have HSt : Hid ((ls.getD live[k].toNat (0, false)).2 = false → markN base (live.take (k + 1)) = some (ls.set live[k].toNat ((ls.getD live[k].toNat (0, false)).1, true))) := fun h => markN_step hkl HM.out h
          clear hc
          generalize live[k] = x at *
          obtain ⟨m, rfl⟩ : ∃ m : Nat, x = m := ⟨x.toNat, by omega⟩
          rw [Int.toNat_natCast] at HNo HSt
          have hml : m < ls.length := by rw [hll.out]; omega
          have hmi : (m : Int) < ls.length := by omega
          obtain ⟨q, rfl, hg1, hg2, hg3, hg4, hg5, hg6, hg7, hg8, hg9⟩ := f7 m hml
          have HLV := Lib.hid (HS.out.live hml f1 true)
          cases hfl : (ls.getD m (0, false)).2
          · have HT := Lib.hid (HSt.out hfl)
            rw [hfl] at hg9
            clear hfl hg7 hg8 f5 f6 f7 HNo HSt hg4 hg6 f3 f4
            go_wp2_with fail
            go_roundw
            case rel => exact ⟨k + 1, by omega, by go_num, _, HT.out, HLV.out.1, HB.out.trans (HLV.out.2.below (by have := HS.out.lt; omega) fun k _ h => h)⟩
            case measure => simp [intOf]; omega
          · have HT := Lib.hid (HNo.out hfl)
            have HR : Hid (loadR gens live = (none, 6)) := by unfold Hid; rw [HR0.out, HT.out]
            rw [hfl] at hg9
            clear hfl hg7 hg8 f5 f6 f7 HNo HSt hg4 hg6 f3 f4
            go_wp2_with fail
            go_ret2
            rw [HR.out]
            exact ⟨HO1.out.trans (HB.out.mono (by rw [← HP.out]; exact HO1.out.size)), rfl⟩
        · have hkn : k = live.length := by omega
          subst hkn
          rw [List.take_length] at HM
          clear hlt hk f5 f6 f7
          go_wp2_with fail
          refine (hasSlot_any A2 c3 ls 1000000 true wr F5.out (by rw [hll.out]; omega)).mono ?_
          rintro e w4 ⟨rfl, hb4⟩
          have HSL : Hid (SlotsAt w4 p ls (fun q => p ≤ q)) := HS.out.only (G := fun _ => False) (Only.of_below hb4) (fun _ _ h => h)
          have HBL : Hid (Below w.heap.size w w4) := HO1.out.trans ((HB.out.mono (by rw [← HP.out]; exact HO1.out.size)).trans (hb4.mono (by have := HB.out.size; have := HO1.out.size; omega)))
          have HPw : Hid (w.heap.size ≤ p) := by unfold Hid; rw [← HP.out]; exact HO1.out.size
          cases hH : hasSlot 1000000 true ls
          · have HR : Hid (loadR gens live = (some ls, 0)) := by
              unfold Hid; rw [HR0.out, HM.out]; simp only [hH]; rfl
            clear hH
            go_wp2_with fail
            go_ret2
            rw [HR.out]
            exact ⟨HBL.out, p, rfl, HSL.out.mono fun k _ h => by have := HPw.out; omega⟩
          · have HR : Hid (loadR gens live = (none, 1)) := by
              unfold Hid; rw [HR0.out, HM.out]; simp only [hH]; rfl
            clear hH
            go_wp2_with fail
            go_ret2
            rw [HR.out]
            exact ⟨HBL.out, rfl⟩

theorem load_any' (A A' : Option Addr) (n n' c c' : Nat) (gens live : List Int) (w : World) (h : ReadsI w w.heap.size A n gens) (h' : ReadsI w w.heap.size A' n' live) (hn : n ≤ maxLen) (hn' : n' ≤ maxLen) :
    Calls Try.prog 28 #[.slice A n c, .slice A' n' c'] w (LoadEnd w (loadR gens live)) := by
  obtain rfl := h.len
  obtain rfl := h'.len
  exact load_any A A' c c' gens live w h h' hn hn'

end Go.Proofs.Ytmocljblfccglaa
