/-
  Contracts of Gens and Take.
-/
import Derived.Test.YtmocljblfccglaaSlotCalls4
namespace Go.Proofs.Ytmocljblfccglaa
open Go.RowKit

def gensN (ls : List (Int × Bool)) : Nat → List Int
  | 0 => []
  | k + 1 => gensN ls k ++ [(ls.getD k (0, false)).1]
theorem gensN_take (ls : List (Int × Bool)) : ∀ k, k ≤ ls.length → gensN ls k = (ls.take k).map (·.1)
  | 0, _ => by simp [gensN]
  | k + 1, h => by
    rw [gensN, gensN_take ls k (by omega), List.take_add_one, List.getElem?_eq_getElem (by omega), List.map_append]
    simp only [List.getD, List.getElem?_eq_getElem (show k < ls.length by omega), Option.toList, List.map_cons, List.map_nil, Option.getD_some]
def gensL (ls : List (Int × Bool)) : List Int := gensN ls ls.length
theorem gensL_map (ls : List (Int × Bool)) : gensL ls = ls.map (·.1) := by rw [gensL, gensN_take ls _ (Nat.le_refl _), List.take_length]
theorem gensN_len (ls : List (Int × Bool)) : ∀ k, (gensN ls k).length = k
  | 0 => rfl
  | k + 1 => by simp [gensN, gensN_len ls k]

theorem gens_any (p : Nat) (ls : List (Int × Bool)) (F : Nat → Prop) (w : World) (h : SlotsAt w p ls F) (hl : ls.length ≤ 60) :
    Calls Try.prog 27 #[.pointer (some ⟨p, 0, none⟩)] w (IsInts w (gensL ls)) := by
  obtain ⟨A, c, f1, f2, f3, f4, f5, f6, f7⟩ := h.facts
  have F5 := Lib.hid f5
  clear f2 f5 f6 f7 h
  go_enter Try.func27, Try.ntmps27
  go_wp2_with fail
  go_loopw [11, 3] (fun i out w' => ∃ k : Nat, k ≤ ls.length ∧ i = .int .i64 k ∧ OwnI w' w.heap.size out (gensN ls k) ∧ Below w.heap.size w w') (fun i _ _ => ls.length - (intOf i).toNat)
  case atStart => exact ⟨0, by omega, rfl, OwnI.nil _ _, Below.refl _ _⟩
  case round =>
    clear f1
    obtain ⟨k, hk, rfl, hown, hb⟩ := hrel
    have HO := Lib.hid hown
    have HB := Lib.hid hb
    clear hown hb
    by_cases hlt : k < ls.length
    · have hki : (k : Int) < ls.length := by omega
      obtain ⟨g, rfl, hrow⟩ := slots_row (own_below F5.out HB.out) hlt
      have hN : Hid (gensN ls (k + 1) = gensN ls k ++ [(ls.getD k (0, false)).1]) := rfl
      have hlen := gensN_len ls k
      generalize ls.getD k (0, false) = x at *
      obtain ⟨x, b⟩ := x
      simp only at hrow
      go_upto_region 5 with (fail)
      refine wp_abs (fun w' => Blk w' wr.heap.size 78 #[.int .i64 x, .bool b] ∧ Below wr.heap.size wr w') ?_ ?_
      · rw [put2_set]
        have h0 : Blk (wr.alloc (.cells #[.int .i64 0, .bool false] 78)) wr.heap.size 78 #[.int .i64 0, .bool false] := Blk.new _ _ _
        have h1 := (h0.set 0 (.int .i64 x)).set 1 (.bool b)
        exact ⟨h1, (((Below.refl _ _).alloc (Nat.le_refl _) _).setCell (p := ⟨wr.heap.size, 0, none⟩) (Nat.le_refl _) _).setCell (p := ⟨wr.heap.size, 0 + 1, none⟩) (Nat.le_refl _) _⟩
      rintro w2 ⟨hs2, hb2⟩
      have c1 : w2.cell? ⟨wr.heap.size, 0, none⟩ = some (.int .i64 x) := hs2.cell 0
      have hown2 : OwnI w2 w.heap.size _ _ := HO.out.kept hb2
      have HB2 := Lib.hid (HB.out.trans (hb2.mono HB.out.size))
      clear hs2 hb2 HO hrow
      go_wp2_with (at_builtin; refine wpList_append_i rfl _ _ rfl w.heap.size _ (gensN ls k) rfl hown2 x rfl ?_ ?_ ?_)
      case refine_1 => omega
      case refine_2 => exact HB2.out.size
      intro v' w3 hown3 _ hb3
      go_wp2_with fail
      go_roundw
      case rel => exact ⟨k + 1, by omega, by go_num, hN.out.symm ▸ hown3, HB2.out.trans hb3⟩
      case measure => simp [intOf]; omega
    · have : k = ls.length := by omega
      subst this
      go_wp2_with fail
      go_ret
      exact ⟨_, rfl, HO.out, HB.out⟩

def takeR (ls : List (Int × Bool)) : List (Int × Bool) × (Int × Int) × Int :=
  if ls.findIdx freeB < ls.length then (ls.set (ls.findIdx freeB) ((ls.getD (ls.findIdx freeB) (0, false)).1, true), ((ls.findIdx freeB : Nat), (ls.getD (ls.findIdx freeB) (0, false)).1), 0)
  else if ls.length = 60 then (ls, (0, 0), 2) else (ls ++ [(0, true)], ((ls.length : Nat), 0), 0)

theorem slot_parts : (Try.prog.info? 78).map (fun i => (i.zero, i.size, i.bytes)) = some (some (.agg #[.int .i64 0, .bool false]), 2, 16) := by kernel_rfl

theorem ret_take {a b n : Int} {x : List (Int × Bool) × (Int × Int) × Int} {ls : List (Int × Bool)} (h : x = (ls, (a, b), n)) : Ending.returned (.tuple #[.agg (ints [a, b]), .int .i64 n]) = .returned (.tuple #[.agg (ints [x.2.1.1, x.2.1.2]), .int .i64 x.2.2]) := by rw [h]

/-- the handle that is to be handed back, and the slots -/
def TakeMem (w : World) (p : Nat) (ls : List (Int × Bool)) (F : Nat → Prop) (hc : List Int) (w' : World) : Prop :=
  Blk w' w.heap.size 42 (ints hc) ∧ SlotsAt w' p ls (fun k => F k ∧ k < w.heap.size) ∧ Only F w w'
/-- .. behind the append -/
def TakeMem2 (w : World) (p : Nat) (ls : List (Int × Bool)) (F : Nat → Prop) (hc : List Int) (w' : World) : Prop :=
  Blk w' w.heap.size 42 (ints hc) ∧ SlotsAt w' p ls (fun k => (F k ∧ k < w.heap.size) ∨ w.heap.size < k) ∧ Only F w w'
theorem TakeMem.two {w w' : World} {p : Nat} {ls : List (Int × Bool)} {F : Nat → Prop} {hc : List Int} (h : TakeMem w p ls F hc w') : TakeMem2 w p ls F hc w' := ⟨h.1, h.2.1.mono fun _ _ h => Or.inl h, h.2.2⟩
theorem TakeMem.after {w w' w'' : World} {p : Nat} {ls : List (Int × Bool)} {F : Nat → Prop} {hc : List Int} (h : TakeMem w p ls F hc w') (hb : Below w'.heap.size w' w'') : TakeMem w p ls F hc w'' :=
  ⟨h.1.after hb, h.2.1.only (G := fun k => w.heap.size ≤ k) ((Only.of_below hb)) (fun k hk => by omega), h.2.2.trans (Only.of_below hb)⟩

theorem take_any (p : Nat) (ls : List (Int × Bool)) (F : Nat → Prop) (w : World) (h : SlotsAt w p ls F) (hl : ls.length ≤ 60) :
    Calls Try.prog 24 #[.pointer (some ⟨p, 0, none⟩)] w fun e w' => e = .returned (.tuple #[.agg (ints [(takeR ls).2.1.1, (takeR ls).2.1.2]), .int .i64 (takeR ls).2.2]) ∧ SlotsAt w' p (takeR ls).1 (Plus F w w') ∧ Only F w w' := by
  have hp := h.lt
  have H := Lib.hid h
  clear h
  go_enter Try.func24, Try.ntmps24
  go_upto_region 1 with (fail)
  refine wp_abs (TakeMem w p ls F [0, 0]) ⟨Blk.new _ _ _, (H.out.mono fun k hk hf => ⟨hf, hk⟩).only (G := fun k => k = w.heap.size) (Only.of_below ((Below.refl _ _).alloc (Nat.le_refl _) _)) (fun k hk => by omega), Only.of_below ((Below.refl _ _).alloc (Nat.le_refl _) _)⟩ ?_
  intro w1 hM
  have HM := Lib.hid hM
  clear hM
  obtain ⟨A, c, f1, f2, f3, f4, f5, f6, f7⟩ := HM.out.2.1.facts
  have hix := f5
  clear f2 f5 f6 f7
  go_wp2_with fail
  refine (indexFree_any A c ls w1 hix (by omega)).mono ?_
  rintro e w2 ⟨rfl, hb2⟩
  have HM2 := Lib.hid (HM.out.after hb2)
  clear hb2 HM f1 f3 f4 hix
  obtain ⟨A, c, f1, f2, f3, f4, f5, f6, f7⟩ := HM2.out.2.1.facts
  by_cases hix : ls.findIdx freeB < ls.length
  · have hI : freeIx ls = (ls.findIdx freeB : Nat) := by unfold freeIx; rw [if_pos hix]
    have HT : Hid (takeR ls = (ls.set (ls.findIdx freeB) ((ls.getD (ls.findIdx freeB) (0, false)).1, true), (((ls.findIdx freeB : Nat) : Int), (ls.getD (ls.findIdx freeB) (0, false)).1), 0)) := by unfold Hid takeR; rw [if_pos hix]
    rw [hI]
    clear hI
    generalize ls.findIdx freeB = k at *
    have hki : (k : Int) < ls.length := by omega
    obtain ⟨g, rfl, hg1, hg2, hg3, hg4, hg5, hg6, hg7, hg8, hg9⟩ := f7 k hix
    have hlv := HM2.out.2.1.live hix f1 true
    have h5 : Hid (TakeMem w p (ls.set k ((ls.getD k (0, false)).1, true)) F [0, 0] (w2.setCell ⟨g, k * 2 + 1, none⟩ (.bool true))) :=
      ⟨HM2.out.1.far (by omega) _ _, hlv.1, HM2.out.2.2.trans' hlv.2 fun q hq h => h.1⟩
    generalize ls.getD k (0, false) = x at *
    obtain ⟨x, b⟩ := x
    simp only at h5 HT hg8
    clear f2 f3 f4 f5 f6 f7 hg4 hg6 hg7 hlv
    have f1' : w2.cell? ⟨p, 0, none⟩ = some (.slice (some ⟨g, 0, none⟩) ls.length c) := f1
    go_upto_region 8 with (fail)
    refine wp_abs (TakeMem2 w p (ls.set k (x, true)) F [0, 0]) h5.out.two ?_
    intro w3 hM3
    have HM3 := Lib.hid hM3
    clear hM3
    obtain ⟨A3, c3, f1, f2, f3, f4, f5, f6, f7⟩ := HM3.out.2.1.facts
    obtain ⟨g3, rfl, hg1, hg2, hg3, hg4, hg5, hg6, hg7, hg8, hg9⟩ := f7 k (by simpa using hix)
    have hrow : ((ls.set k (x, true)).getD k (0, false)).1 = x := by simp [List.getD, List.getElem?_set, hix]
    rw [hrow] at hg8
    have hki3 : ((k : Nat) : Int) < ((ls.set k (x, true)).length : Nat) := by rw [List.length_set]; omega
    have ff : fits w3 w.heap.size 0 2 = true := HM3.out.1.fits 0 2 (by decide)
    clear f2 f3 f4 f5 f6 f7 hg4 hg5 hg6 hg7 hg9 hrow
    go_wp2_with fail
    refine bodyPost_row_tmp rfl w.heap.size 42 (ints [((k : Nat) : Int), x]) (.int .i64 0) _ rfl rfl (HM3.out.1.put_all _ rfl) Try.underlying42 rfl (by rw [ints_size]; exact handle_info) rfl ?_
    have hO : Only F w (putRow w3 w.heap.size 0 [((k : Nat) : Int), x]) := HM3.out.2.2.trans' (G := fun q => q = w.heap.size) ⟨rfl, rfl, rfl, by rw [putRow_size]; exact Nat.le_refl _, fun q _ hq => putRow_other w3 _ 0 _ q hq⟩ (fun q hq he => absurd hq (by omega))
    refine ⟨ret_take HT.out, ?_, hO⟩
    rw [HT.out]
    have hs := HM3.out.2.1.only (w' := putRow w3 w.heap.size 0 [((k : Nat) : Int), x]) (G := fun q => q = w.heap.size) ⟨rfl, rfl, rfl, by rw [putRow_size]; exact Nat.le_refl _, fun q _ hq => putRow_other w3 _ 0 _ q hq⟩ (fun q hq he => by rcases hq with ⟨_, hq⟩ | hq <;> omega)
    refine hs.mono fun q hq hf => ?_
    rcases hf with ⟨hf, _⟩ | hf
    · exact Or.inl hf
    · exact Or.inr ⟨by omega, hq⟩
  · have hI : freeIx ls = -1 := by unfold freeIx; rw [if_neg hix]
    rw [hI]
    clear hI
    by_cases h60 : ls.length = 60
    · have HT : Hid (takeR ls = (ls, (0, 0), 2)) := by unfold Hid takeR; rw [if_neg hix, if_pos h60]
      have ff : fits w2 w.heap.size 0 2 = true := HM2.out.1.fits 0 2 (by decide)
      rw [h60] at f1
      clear f2 f3 f4 f5 f6 f7
      go_wp2_with fail
      refine bodyPost_row_tmp rfl w.heap.size 42 (ints [0, 0]) (.int .i64 2) _ rfl rfl (HM2.out.1.put_all _ rfl) Try.underlying42 rfl (by rw [ints_size]; exact handle_info) rfl ?_
      have hO : Only F w (putRow w2 w.heap.size 0 [0, 0]) := HM2.out.2.2.trans' (G := fun q => q = w.heap.size) ⟨rfl, rfl, rfl, by rw [putRow_size]; exact Nat.le_refl _, fun q _ hq => putRow_other w2 _ 0 _ q hq⟩ (fun q hq he => absurd hq (by omega))
      refine ⟨ret_take HT.out, ?_, hO⟩
      rw [HT.out]
      have hs := HM2.out.2.1.only (w' := putRow w2 w.heap.size 0 [0, 0]) (G := fun q => q = w.heap.size) ⟨rfl, rfl, rfl, by rw [putRow_size]; exact Nat.le_refl _, fun q _ hq => putRow_other w2 _ 0 _ q hq⟩ (fun q hq he => by omega)
      exact hs.mono fun q hq hf => Or.inl hf.1
    · have HT : Hid (takeR ls = (ls ++ [(0, true)], (((ls.length : Nat) : Int), 0), 0)) := by unfold Hid takeR; rw [if_neg hix, if_neg h60]
      have h60' : ((ls.length : Int) == 60) = false := by simp; omega
      obtain ⟨v, hB, hown, hne, hF, hFk⟩ := HM2.out.2.1
      have hv : v = .slice A ls.length c := by have := hB.cell 0; rw [f1] at this; simpa using this.symm
      subst hv
      have HB := Lib.hid hB
      have HN := Lib.hid hne
      have hpF : Hid (F p) := hF.1
      have HFk := Lib.hid hFk
      have h1 : Hid (Blk w2 w.heap.size 42 (ints [0, 0])) := HM2.out.1
      have h2 : Hid (Only F w w2) := HM2.out.2.2
      have hown' : Hid (w2.ownsRow 0 78 2 (.slice A ls.length c) ls.length (ls.flatMap slotC)) := hown
      obtain ⟨i0, hi0, hz0, hz1, hz2⟩ := info_parts slot_parts
      clear f2 f3 f4 f5 f6 f7 hB hown hne hF hFk HM2
      go_wp2_with (at_builtin; refine wpList_append1_at rfl _ _ _ rfl 0 78 i0 _ 2 16 Try.underlying74 hi0 hz0 hz1 hz2 rfl (by decide) (.slice A ls.length c) ls.length (ls.flatMap slotC) rfl hown'.out [.int .i64 0, .bool false] rfl rfl (by simp [Value.oneCell']) (by unfold maxLen; omega) (by omega) (Nat.zero_le _) ?_)
      intro v' w3 hown3 hg3 hat
      obtain ⟨A', c', rfl, _, _, _⟩ := own_form hown3
      have hO3 : Only (fun k => (Value.slice A ls.length c).ownBlock = some k) w2 w3 := (Only.refl.alloc _).trans (Only.grown hg3 fun k hk => hk)
      have hB3 := hO3.blk HB.out (fun e => HN.out e)
      have hH3 := hO3.blk h1.out (fun e => by have := (HFk.out _ e).2; omega)
      have hN3 : (Value.slice A' (ls.length + 1) c').ownBlock ≠ some p := by
        rcases hat with e | e
        · rw [e]; exact HN.out
        · rw [e]; intro h; injection h with h; have := h1.out.lt; omega
      have c1 : w3.cell? ⟨p, 0, none⟩ = some (.slice A ls.length c) := hB3.cell 0
      have c2 : w3.frozen? ⟨p, 0, none⟩ = false := hB3.frozen 0
      have hM4 : Hid (TakeMem2 w p (ls ++ [(0, false)]) F [0, 0] (w3.setCell ⟨p, 0, none⟩ (.slice A' (ls.length + 1) c'))) := by
        refine ⟨hH3.far (by omega) _ _, ⟨_, hB3.set 0 _, ?_, hN3, Or.inl ⟨hpF.out, hp⟩, fun k hk => ?_⟩, ?_⟩
        · rw [List.length_append, List.flatMap_append]
          exact ownsRow_setCell_other hown3 hN3 _
        · rcases hat with e | e
          · rw [e] at hk; exact Or.inl (HFk.out k hk)
          · rw [e] at hk; injection hk with hk; have := h1.out.lt; exact Or.inr (by omega)
        · exact (h2.out.trans' hO3 fun k hk e => (HFk.out k e).1).setCell (Or.inl hpF.out) _ _
      clear hown3 hg3 hat hO3 hB3 hH3 hN3 h1 h2 HFk hown'
      go_upto_region 7 with (fail)
      refine wp_abs (TakeMem2 w p (ls ++ [(0, false)]) F [0, 0]) hM4.out ?_
      clear hM4 c1 c2
      intro w5 hM5
      obtain ⟨A5, c5, f1, f2, f3, f4, f5, f6, f7⟩ := hM5.2.1.facts
      obtain ⟨g5, rfl, hg1, hg2, hg3, hg4, hg5, hg6, hg7, hg8, hg9⟩ := f7 ls.length (by simp)
      have hlv := hM5.2.1.live (k := ls.length) (by simp) f1 true
      have hki : ((ls.length : Nat) : Int) < ((ls ++ [((0 : Int), false)]).length : Nat) := by rw [List.length_append]; simp; omega
      have h5 : Hid (TakeMem2 w p (ls ++ [(0, true)]) F [0, 0] (w5.setCell ⟨g5, ls.length * 2 + 1, none⟩ (.bool true))) := by
        have e : (ls ++ [((0 : Int), false)]).set ls.length (((ls ++ [((0 : Int), false)]).getD ls.length (0, false)).1, true) = ls ++ [(0, true)] := by
          simp [List.getD, List.set_append_right]
        have h := hlv.1
        rw [e] at h
        refine ⟨hM5.1.far (by rcases hg2 with hg2 | hg2 <;> omega) _ _, h, hM5.2.2.trans' hlv.2 fun q hq h => ?_⟩
        rcases h with h | h
        · exact h.1
        · exact absurd hq (by omega)
      clear f2 f3 f4 f5 f6 f7 hg4 hg6 hg7 hg8 hlv hM5
      go_upto_region 8 with (fail)
      refine wp_abs (TakeMem2 w p (ls ++ [(0, true)]) F [0, 0]) h5.out ?_
      intro w6 hM6
      have HM6 := Lib.hid hM6
      clear hM6
      obtain ⟨A3, c3, f1, f2, f3, f4, f5, f6, f7⟩ := HM6.out.2.1.facts
      obtain ⟨g3, rfl, hg1, hg2, hg3, hg4, hg5, hg6, hg7, hg8, hg9⟩ := f7 ls.length (by simp)
      have hrow : ((ls ++ [(0, true)]).getD ls.length (0, false)).1 = 0 := by simp [List.getD]
      rw [hrow] at hg8
      have hki3 : ((ls.length : Nat) : Int) < ((ls ++ [(0, true)]).length : Nat) := by rw [List.length_append]; simp; omega
      have ff : fits w6 w.heap.size 0 2 = true := HM6.out.1.fits 0 2 (by decide)
      clear f2 f3 f4 f5 f6 f7 hg4 hg5 hg6 hg7 hg9 hrow
      go_wp2_with fail
      refine bodyPost_row_tmp rfl w.heap.size 42 (ints [((ls.length : Nat) : Int), 0]) (.int .i64 0) _ rfl rfl (HM6.out.1.put_all _ rfl) Try.underlying42 rfl (by rw [ints_size]; exact handle_info) rfl ?_
      have hO : Only F w (putRow w6 w.heap.size 0 [((ls.length : Nat) : Int), 0]) := HM6.out.2.2.trans' (G := fun q => q = w.heap.size) ⟨rfl, rfl, rfl, by rw [putRow_size]; exact Nat.le_refl _, fun q _ hq => putRow_other w6 _ 0 _ q hq⟩ (fun q hq he => absurd hq (by omega))
      refine ⟨ret_take HT.out, ?_, hO⟩
      rw [HT.out]
      have hs := HM6.out.2.1.only (w' := putRow w6 w.heap.size 0 [((ls.length : Nat) : Int), 0]) (G := fun q => q = w.heap.size) ⟨rfl, rfl, rfl, by rw [putRow_size]; exact Nat.le_refl _, fun q _ hq => putRow_other w6 _ 0 _ q hq⟩ (fun q hq he => by rcases hq with ⟨_, hq⟩ | hq <;> omega)
      refine hs.mono fun q hq hf => ?_
      rcases hf with ⟨hf, _⟩ | hf
      · exact Or.inl hf
      · exact Or.inr ⟨by omega, hq⟩

end Go.Proofs.Ytmocljblfccglaa
