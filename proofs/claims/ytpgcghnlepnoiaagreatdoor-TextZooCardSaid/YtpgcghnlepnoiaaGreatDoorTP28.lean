/-
  Several texts in one (merged by a program of mine): FamAbove.
-/
import Derived.Test.YtpgcghnlepnoiaaGreatDoorTP27
import Derived.RangeFuncNested
import Derived.RangeFuncBound
import Derived.RangeFuncCalls
import Derived.RangeFuncLeaves
import Derived.RegionIn
import Derived.BigRegionIn
import Derived.OwnWalkIn
import Derived.TacticsInMore
import Derived.LoopNIn
import Derived.LoopIn
set_option linter.unusedVariables false
set_option linter.unusedSimpArgs false
set_option linter.unusedSectionVars false
/-
  family.above: the iterator over all that is above a handle.
-/
namespace Go.Proofs.YtpgcghnlepnoiaaGreatDoor
open Go.RowKit
attribute [local go_sem] Oper.semAt_some

theorem above_any (p : Nat) (h : Hd) (w : World) : Calls Tryz.prog 76 #[.pointer (some ⟨p, 0, none⟩), hdV h] w fun e w' =>
    e = .returned (.func (.func 114) #[] #[.pointer (some ⟨w.heap.size, 0, none⟩), .pointer (some ⟨w.heap.size + 1, 0, none⟩)]) ∧
    w' = (w.alloc (.cells #[.pointer (some ⟨p, 0, none⟩)] 85)).alloc (.cells (ints (hL h)) 46) := by
  obtain ⟨h1, h2⟩ := h
  rw [hdV_eq]
  go_enter Tryz.func76, Tryz.ntmps76
  go_wp2_with fail
  go_ret
  exact ⟨rfl, rfl⟩

theorem Chain.uniq {m : Fam} {h : Hd} {xs : List Hd} (hx : Chain m h xs) : ∀ {ys : List Hd}, Chain m h ys → xs = ys := by
  induction hx with
  | nil hn =>
    intro ys hy
    cases hy with
    | nil _ => rfl
    | cons h _ => rw [hn] at h; cases h
  | cons hm _ ih =>
    intro ys hy
    cases hy with
    | nil h => rw [hm] at h; cases h
    | cons h hy => rw [hm] at h; cases Option.some.inj h; rw [ih hy]
open Classical in
noncomputable def chainLen (m : Fam) (h : Hd) : Nat := if hx : ∃ xs, Chain m h xs then (Classical.choose hx).length else 0
theorem chainLen_eq {m : Fam} {h : Hd} {xs : List Hd} (hx : Chain m h xs) : chainLen m h = xs.length := by
  have he : ∃ xs, Chain m h xs := ⟨xs, hx⟩
  unfold chainLen
  rw [dif_pos he, (Classical.choose_spec he).uniq hx]
noncomputable def aboveLeft (m : Fam) (v4 v5 : Value) (w : World) : Nat :=
  match v5, v4 with
  | .bool true, .pointer (some a) => (match w.cell? ⟨a.block, 0, none⟩, w.cell? ⟨a.block, 1, none⟩ with
    | some (.int .i64 x), some (.int .i64 y) => chainLen m (x, y) + 1
    | _, _ => 0)
  | _, _ => 0
theorem aboveLeft_eq {m : Fam} {cb : Nat} {w : World} {t : TypeId} {h : Hd} {xs : List Hd} (hx : Chain m h xs) (hB : Blk w cb t (ints (hL h))) : aboveLeft m (.pointer (some ⟨cb, 0, none⟩)) (.bool true) w = xs.length + 1 := by
  obtain ⟨h1, h2⟩ := h
  have c0 : w.cell? ⟨cb, 0, none⟩ = some (.int .i64 h1) := hB.cell 0
  have c1 : w.cell? ⟨cb, 1, none⟩ = some (.int .i64 h2) := hB.cell 1
  unfold aboveLeft
  simp only [c0, c1]
  rw [chainLen_eq hx]

theorem wpIn_abs {F : Fence} {n : Nat} {P : Program} {c : Code} {Q : Exit → Act → World → Prop} {a : Act} {w : World} (I : World → Prop) (h : I w) (k : ∀ w', I w' → c.wpIn F n P Q a w') : c.wpIn F n P Q a w := k w h
/-- cells, maps and ranges lie as they lay -/
structure KeepsData (A B : World) : Prop where
  size : A.heap.size ≤ B.heap.size
  same : ∀ (k : Nat) (o : Obj), A.heap[k]? = some o → (o.isCells || o.isWalk) = true → B.heap[k]? = some o
theorem KeepsData.refl (A : World) : KeepsData A A := ⟨Nat.le_refl _, fun _ _ h _ => h⟩
theorem KeepsData.trans {A B C : World} (h : KeepsData A B) (h' : KeepsData B C) : KeepsData A C := ⟨Nat.le_trans h.size h'.size, fun k o hk ho => h'.same k o (h.same k o hk ho) ho⟩
theorem KeepsData.of_below {A B : World} (h : Below A.heap.size A B) : KeepsData A B := ⟨h.size, fun k o hk _ => (h.block k (Array.getElem?_eq_some_iff.1 hk).1).trans hk⟩
theorem KeepsData.blk {A B : World} (h : KeepsData A B) {g : Nat} {t : TypeId} {cs : Array Value} (hb : Blk A g t cs) : Blk B g t cs := h.same g _ hb rfl
theorem KeepsData.map {A B : World} (h : KeepsData A B) {κ ν : Type} {ek : κ → Value} {ev : ν → Value} {good : κ → Prop} {b : Nat} {m : List (κ × ν)} (hm : MapAt ek ev good A b m) : MapAt ek ev good B b m := by
  refine hm.block ?_
  obtain ⟨es, clock, hb, _⟩ := hm
  rw [hb]
  exact h.same b _ hb rfl
theorem KeepsData.fam {A B : World} (h : KeepsData A B) {p b : Nat} {m : Fam} (hs : FamSee A p b m) : FamSee B p b m := ⟨hs.ok, h.blk hs.blk, h.map hs.map⟩
theorem keepsData_t {A B C : World} : KeepsData A B → KeepsData B C → KeepsData A C := KeepsData.trans
theorem keepsData_b {n : Nat} : ∀ (W : World) (l : Nat) (o o' : Obj), n ≤ l → W.heap[l]? = some o → o.isCells = false → o.isWalk = false → KeepsData W (W.putObj l o') := fun W l o o' _ hl h1 h2 =>
  ⟨by simp, fun k q hk hq => by
    by_cases e : k = l
    · subst e; rw [hl] at hk; cases hk; rw [h1, h2] at hq; cases hq
    · rw [World.putObj_heap_other e]; exact hk⟩
theorem grown_of_below {A B : World} (h : Below A.heap.size A B) : A.grownBy B none := ⟨h.os, h.tape, h.output, h.size, fun k hk _ => h.block k hk⟩

set_option maxHeartbeats 4000000 in
set_option maxRecDepth 100000 in
theorem above_stops (n : Nat) (hn : 1 ≤ n) (fb hb p b : Nat) (m : Fam) (h : Hd) (xs : List Hd) (hc : Chain m h xs) (w : World) (hF : Blk w fb 85 #[.pointer (some ⟨p, 0, none⟩)]) (hH : Blk w hb 46 (ints (hL h))) (hS : FamSee w p b m) :
    SeqStopsK Fence.wide n Tryz.prog 114 #[.pointer (some ⟨fb, 0, none⟩), .pointer (some ⟨hb, 0, none⟩)] (fun x : Hd => #[hdV x]) KeepsData (fun ys => ys = xs) (fun pre => pre <+: xs) xs.length w := fun l J Jx W hW hJ hJx hY h0 => by
  have HJ := Lib.hid hJ
  have HY := Lib.hid hY
  have HW := Lib.hid hW
  have HS := Lib.hid hS
  have HC := Lib.hid hc
  have HF := Lib.hid hF
  have HJ0 := Lib.hid h0
  obtain ⟨h1, h2⟩ := h
  have hS1 := HS.out.after hW
  have k0 : W.cell? ⟨p, 0, none⟩ = some (.map (some b)) := hS1.blk.cell 0
  have k1 : row? W hb 0 2 = some #[.int .i64 h1, .int .i64 h2] := (hH.after hW).row_all (xs := [h1, h2]) rfl
  have k2 : W.cell? ⟨fb, 0, none⟩ = some (.pointer (some ⟨p, 0, none⟩)) := (hF.after hW).cell 0
  have hba := (Below.refl W.heap.size W).alloc (Nat.le_refl _) (.cells #[.int .i64 0, .int .i64 0] 46)
  have k3 : row? (W.alloc (.cells #[.int .i64 0, .int .i64 0] 46)) hb 0 2 = some #[.int .i64 h1, .int .i64 h2] := ((hH.after hW).after hba).row_all (xs := [h1, h2]) rfl
  have k4 : (W.alloc (.cells #[.int .i64 0, .int .i64 0] 46)).cell? ⟨p, 0, none⟩ = some (.map (some b)) := (hS1.blk.after hba).cell 0
  have k5 : (W.alloc (.cells #[.int .i64 0, .int .i64 0] 46)).cell? ⟨fb, 0, none⟩ = some (.pointer (some ⟨p, 0, none⟩)) := ((hF.after hW).after hba).cell 0
  have hl1 := look_fam hS1.map (h1, h2) (Below.refl _ _).drew
  have hl2 := look_fam hS1.map (h1, h2) (((Below.refl _ W).alloc (Nat.le_refl _) (.cells #[.int .i64 0, .int .i64 0] 46)).drew)
  rw [hdV_eq] at hl1 hl2
  have HPR : Hid (parentR m (h1, h2) = (xs.head?.getD (0, 0), xs.head?.isSome)) := by unfold Hid parentR; rw [hc.get]
  generalize parentR m (h1, h2) = r at *
  obtain ⟨⟨r1, r2⟩, is⟩ := r
  simp only [hdV_eq] at hl1 hl2
  clear hJ hY hW hS hc hF hH h0 hS1 hba
  refine callsIn_of_wp Tryz.func114 rfl trivial ?_ rfl
  simp only [Tryz.ntmps114, List.size_toArray, List.length_cons, List.length_nil, Nat.reduceAdd, Nat.reduceSub, Array.replicate_succ, Array.replicate_zero, List.push_toArray, List.append_toArray, List.nil_append, List.cons_append]
  have HJ1 : Hid (∀ w1, w1 = (putRow (W.alloc (.cells (ints [0, 0]) 46)) W.heap.size 0 [r1, r2]).drew → J [] w1 ∧ Blk w1 W.heap.size 46 (ints [r1, r2]) ∧ Below W.heap.size W w1) := by
    rintro w1 rfl
    have hbb := (below_new_put W 46 [0, 0] [r1, r2]).drew
    exact ⟨HJ.out [] W _ none HJ0.out (grown_of_below hbb) (fun r e => by cases e), (blk_new_put W 46 [0, 0] [r1, r2] rfl).drew, hbb⟩
  have HFW : Hid (Blk W fb 85 #[.pointer (some ⟨p, 0, none⟩)]) := HF.out.after HW.out
  have HSW : Hid (FamSee W p b m) := HS.out.after HW.out
  gi_wp2
  gi_region
  all_goals
    clear k0 k1 k2 k3 k4 k5 hl1 hl2
    gi_wp2
    gi_loopw [4, 5] (fun v4 v5 wr => ∃ (pre rest : List Hd) (h' : Hd) (cb : Nat), v4 = .pointer (some ⟨cb, 0, none⟩) ∧ v5 = .bool rest.head?.isSome ∧ xs = pre ++ rest ∧ Chain m h' rest ∧ J pre wr ∧ Blk wr cb 46 (ints (hL (rest.head?.getD (0, 0)))) ∧ Blk wr fb 85 #[.pointer (some ⟨p, 0, none⟩)] ∧ FamSee wr p b m)
      (fun v4 v5 wr => aboveLeft m v4 v5 wr)
    case atStart =>
      obtain ⟨g1, g2, g3⟩ := HJ1.out _ rfl
      have e1 : xs.head?.getD (0, 0) = (r1, r2) := (congrArg Prod.fst HPR.out).symm
      have e2 : xs.head?.isSome = is := (congrArg Prod.snd HPR.out).symm
      exact ⟨[], xs, (h1, h2), W.heap.size, rfl, by rw [e2], rfl, HC.out, g1, by rw [e1]; exact g2, HFW.out.after g3, HSW.out.after g3⟩
    case round =>
      clear HJ1 HFW HSW
      obtain ⟨pre, rest, h', cb, rfl, rfl, hx, hch, hJp, hcb, hfb, hfs⟩ := hrel
      cases rest with
      | nil =>
        gi_wp2
        go_end0
        exact ⟨⟨_, rfl⟩, .inl ⟨pre, by simp [hx], hJp⟩⟩
      | cons q rest =>
        obtain ⟨q1, q2⟩ := q
        have hq : mget m h' = some (q1, q2) ∧ Chain m (q1, q2) rest := by cases hch with | cons a b => exact ⟨a, b⟩
        obtain ⟨fn, tmps, assign, body, hy, hR⟩ := HY.out pre (q1, q2) wr hJp (by rw [hx]; simp)
        simp only [hdV_eq] at hy
        have q3 : row? wr cb 0 2 = some #[.int .i64 q1, .int .i64 q2] := hcb.row_all (xs := [q1, q2]) rfl
        have HX := Lib.hid hx
        have HQ := Lib.hid hq.2
        have HCB : Hid (Blk wr cb 46 (ints (hL (q1, q2)))) := hcb
        have HFB := Lib.hid hfb
        have HFS := Lib.hid hfs
        have HRR := Lib.hid hR
        clear hx hch hJp hcb hfb hfs hq hR
        gi_wp2
        refine HRR.out.mono ?_
        rintro e W3 (⟨rfl, hJ3, hk3⟩ | ⟨rfl, hJx3⟩)
        · have HJ3 := Lib.hid hJ3
          have hcb3 := hk3.blk HCB.out
          have HFB3 := Lib.hid (hk3.blk HFB.out)
          have HFS3 := Lib.hid (hk3.fam HFS.out)
          have q4 : row? W3 cb 0 2 = some #[.int .i64 q1, .int .i64 q2] := hcb3.row_all (xs := [q1, q2]) rfl
          clear hJ3 hk3 hcb3 hy q3
          gi_wp2
          refine wpIn_abs (fun w4 => Blk w4 W3.heap.size 46 (ints [q1, q2]) ∧ Below W3.heap.size W3 w4) ⟨blk_new_put W3 46 [0, 0] [q1, q2] rfl, below_new_put W3 46 [0, 0] [q1, q2]⟩ ?_
          rintro W4 ⟨hn4, hb4⟩
          have hS4 := HFS3.out.after hb4
          have k0 : W4.cell? ⟨p, 0, none⟩ = some (.map (some b)) := hS4.blk.cell 0
          have k1 : row? W4 W3.heap.size 0 2 = some #[.int .i64 q1, .int .i64 q2] := hn4.row_all (xs := [q1, q2]) rfl
          have k2 : W4.cell? ⟨fb, 0, none⟩ = some (.pointer (some ⟨p, 0, none⟩)) := (HFB3.out.after hb4).cell 0
          have f4 : fits W4 W3.heap.size 0 2 = true := hn4.fits 0 2 (by rw [ints_size]; simp)
          have hl4 := look_fam hS4.map (q1, q2) (Below.refl _ _).drew
          rw [hdV_eq] at hl4
          have HPR : Hid (parentR m (q1, q2) = (rest.head?.getD (0, 0), rest.head?.isSome)) := by unfold Hid parentR; rw [HQ.out.get]
          generalize parentR m (q1, q2) = r at *
          obtain ⟨⟨r1, r2⟩, is⟩ := r
          simp only [hdV_eq] at hl4
          have HEND : Hid (∀ w5, w5 = (putRow W4 W3.heap.size 0 [r1, r2]).drew → Blk w5 W3.heap.size 46 (ints [r1, r2]) ∧ Below W3.heap.size W3 w5) := by
            rintro w5 rfl
            exact ⟨(hn4.put_all [r1, r2] rfl).drew, (below_put hb4 (Nat.le_refl _) 0 _).drew⟩
          clear hn4 hb4 hS4 q4
          gi_region
          all_goals
            gi_wp2
            go_roundw
            case rel =>
              obtain ⟨g1, g2⟩ := HEND.out _ rfl
              have e1 : rest.head?.getD (0, 0) = (r1, r2) := (congrArg Prod.fst HPR.out).symm
              have e2 : rest.head?.isSome = is := (congrArg Prod.snd HPR.out).symm
              exact ⟨pre ++ [(q1, q2)], rest, (q1, q2), W3.heap.size, rfl, by rw [e2], by rw [HX.out]; simp, HQ.out, HJ.out _ W3 _ none HJ3.out (grown_of_below g2) (fun r e => by cases e), by rw [e1]; exact g1, HFB3.out.after g2, HFS3.out.after g2⟩
            case measure =>
              obtain ⟨g1, g2⟩ := HEND.out _ rfl
              have e1 : rest.head?.getD (0, 0) = (r1, r2) := (congrArg Prod.fst HPR.out).symm
              have e2 : rest.head?.isSome = is := (congrArg Prod.snd HPR.out).symm
              have hR : aboveLeft m (.pointer (some ⟨cb, 0, none⟩)) (.bool true) wr = rest.length + 1 := aboveLeft_eq HQ.out HCB.out
              rw [← e2]
              cases hrs : rest with
              | nil =>
                rw [hrs] at hR
                show aboveLeft m _ (.bool false) _ < aboveLeft m _ (.bool true) wr
                rw [hR]
                simp [aboveLeft]
              | cons s rest' =>
                have hch := HQ.out
                rw [hrs] at hch hR e1
                have hs : Chain m s rest' := by cases hch with | cons a b => exact b
                have e3 : s = (r1, r2) := e1
                have hL : aboveLeft m (.pointer (some ⟨W3.heap.size, 0, none⟩)) (.bool true) _ = rest'.length + 1 := aboveLeft_eq hs (by rw [e3]; exact g1)
                show aboveLeft m _ (.bool true) _ < aboveLeft m _ (.bool true) wr
                rw [hL, hR]
                simp
        · gi_wp2
          refine bodyPost_ret (results_none rfl _ _ _) rfl ?_
          exact ⟨⟨_, rfl⟩, .inr ⟨pre ++ [(q1, q2)], ⟨rest, by simp [HX.out]⟩, hJx3⟩⟩

end Go.Proofs.YtpgcghnlepnoiaaGreatDoor
