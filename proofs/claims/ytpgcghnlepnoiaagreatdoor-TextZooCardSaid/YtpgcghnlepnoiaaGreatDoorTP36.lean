/-
  Several texts in one (merged by a program of mine): TextNum, TextRange, TextLines, TextRound.
-/
import Derived.Test.YtpgcghnlepnoiaaGreatDoorTP35
import Derived.Lib.SplitLaws
import Derived.RangeFuncNested
import Derived.RangeFuncBound
import Derived.RangeFuncCalls
import Derived.RangeFuncLeaves
import Derived.RegionIn
import Derived.BigRegionIn
import Derived.OwnWalkIn
import Derived.TacticsInMore
import Derived.LoopNIn
import Derived.LoopIn
import Derived.StillTailTactics
set_option linter.unusedVariables false
set_option linter.unusedSimpArgs false
set_option linter.unusedSectionVars false
/-
  The contract of text.numbers; strings.Split at a space.
-/
namespace Go.Proofs.YtpgcghnlepnoiaaGreatDoor
open Go.RowKit

theorem mkS_extract (l : Bs) (i j : Nat) : (mkS l).extract i j = mkS ((l.take j).drop i) := by
  apply ByteArray.ext
  rw [ByteArray.data_extract]
  unfold mkS
  apply Array.toList_inj.1
  simp [List.extract_eq_take_drop]
  rw [List.drop_take]
theorem split_sp : ∀ (n : Nat) (l : Bs), l.length ≤ n → (Lib.splitB (mkS [32]) 0 (Lib.countB (mkS l) (mkS [32])) (mkS l)) = (splitSp l).map mkS ∧ Lib.countB (mkS l) (mkS [32]) + 1 = (splitSp l).length := by
  intro n
  induction n with
  | zero =>
    intro l hl
    have e : l = [] := List.eq_nil_of_length_eq_zero (by omega)
    subst e
    exact ⟨rfl, rfl⟩
  | succ n ih =>
    intro l hl
    by_cases h : (32 : UInt8) ∈ l
    · obtain ⟨p, q, rfl, hp⟩ := List.eq_append_cons_of_mem h
      have hp' : ∀ c ∈ p, c ≠ 32 := fun c hc e => hp (e ▸ hc)
      have hi : Lib.indexB (mkS (p ++ 32 :: q)) (mkS [32]) = (p.length : Int) := index_hit1 32 q p hp'
      have hs : (mkS (p ++ 32 :: q)).extract (p.length + (mkS [32]).size) (mkS (p ++ 32 :: q)).size = mkS q := by
        rw [mkS_extract, mkS_size, mkS_size, List.take_length]
        simp
      have h0 : (mkS (p ++ 32 :: q)).extract 0 (p.length + 0) = mkS p := by
        rw [mkS_extract]
        simp
      obtain ⟨i1, i2⟩ := ih q (by simp at hl; omega)
      rw [Lib.countB_hit _ _ p.length (by decide) hi, hs, Nat.add_comm 1, Lib.splitB_hit _ _ _ _ p.length hi, hs, h0, i1, splitSp_word p q hp']
      exact ⟨rfl, by rw [List.length_cons, ← i2]⟩
    · have hn : ∀ c ∈ l, c ≠ 32 := fun c hc e => h (e ▸ hc)
      have hi : Lib.indexB (mkS l) (mkS [32]) = -1 := index_miss1 32 _ hn
      rw [Lib.countB_miss _ _ hi, Lib.splitB_zero, splitSp_last _ hn]
      exact ⟨rfl, rfl⟩
theorem atoi_any (x : Bs) (hx : x.length ≤ 100000) (w : World) (hG : Globs w) :
    Calls Tryz.prog 84 #[.string (mkS x)] w fun e w' => ∃ err, e = .returned (.tuple #[.int .i64 (numOf x), err]) ∧ Below w.heap.size w w' := by
  have hs : (mkS x).size = x.length := mkS_size x
  have hd : (mkS x).data.toList = x := rfl
  cases h : Lib.atoiAll x with
  | ok v =>
    refine (Tryz.strconv_Atoi_ok (mkS x) (by omega) v h w).mono ?_
    rintro e w' ⟨he, hw⟩
    refine ⟨.nilIface, by rw [he]; unfold numOf; rw [h], ?_⟩
    rcases hw with rfl | ⟨t, rfl⟩
    · exact Below.refl _ _
    · exact Lib.bytesWorld_below w _ t
  | range =>
    obtain ⟨tp, p, hv⟩ := hG.rng
    refine (Tryz.strconv_Atoi_range_var (mkS x) (by omega) h tp p w hv).mono ?_
    rintro e w' ⟨N, he, _, _, hb⟩
    exact ⟨_, by rw [he]; unfold numOf; rw [h]; rfl, hb⟩
  | _ =>
    obtain ⟨tp, p, hv⟩ := hG.syn
    refine (Tryz.strconv_Atoi_syntax_var (mkS x) (by omega) (fun v hv => by rw [show (mkS x).data.toList = x from rfl, h] at hv; cases hv) (fun hv => by rw [show (mkS x).data.toList = x from rfl, h] at hv; cases hv) tp p w hv).mono ?_
    rintro e w' ⟨N, he, _, _, hb⟩
    exact ⟨_, by rw [he]; unfold numOf; rw [h], hb⟩
/-- strings that are read -/
def ReadsS (w : World) (B : Nat) (A : Option Addr) (ws : List Bs) : Prop := Reads w B 1 A ws.length (ws.map fun x => .string (mkS x))
theorem ReadsS.at_ {w : World} {B : Nat} {A : Option Addr} {ws : List Bs} (h : ReadsS w B A ws) {k : Nat} (hk : k < ws.length) : ∃ b o, A = some ⟨b, o, none⟩ ∧ b < B ∧ w.cell? ⟨b, o + k, none⟩ = some (.string (mkS ws[k])) := by
  obtain ⟨b, o, u, e, hb, hu, hc⟩ := Reads.at1 h hk
  rw [List.getElem?_map, List.getElem?_eq_getElem hk] at hu
  cases hu
  exact ⟨b, o, e, hb, hc⟩
theorem ReadsS.below {w w' : World} {B : Nat} {A : Option Addr} {ws : List Bs} (h : ReadsS w B A ws) (hb : Below B w w') : ReadsS w' B A ws := Reads.below h hb
theorem ReadsS.more {w : World} {B B' : Nat} {A : Option Addr} {ws : List Bs} (h : ReadsS w B A ws) (hB : B ≤ B') : ReadsS w B' A ws := Reads.more h hB
set_option maxRecDepth 100000 in
theorem numbers_any (A : Option Addr) (c : Nat) (ws : List Bs) (w : World) (hG : Globs w) (h : ReadsS w w.heap.size A ws) (hl : ws.length ≤ 100000) (hx : ∀ x ∈ ws, x.length ≤ 100000) :
    Calls Tryz.prog 51 #[.slice A ws.length c] w (IsInts w (ws.map numOf)) := by
  have H := Lib.hid h
  have HG := Lib.hid hG
  have HX := Lib.hid hx
  have hli : (ws.length : Int) ≤ 100000 := by omega
  clear h hG hx
  go_enter Tryz.func51, Tryz.ntmps51
  go_wp2_with fail
  go_loopw [3, 10] (fun out i wr => ∃ k : Nat, k ≤ ws.length ∧ i = .int .i64 k ∧ OwnI wr w.heap.size out ((ws.take k).map numOf) ∧ Below w.heap.size w wr) (fun _ i _ => ws.length - (intOf i).toNat)
  case atStart => exact ⟨0, Nat.zero_le _, rfl, OwnI.nil _ _, Below.refl _ _⟩
  case round =>
    obtain ⟨k, hk, rfl, hown, hb⟩ := hrel
    by_cases hlt : k < ws.length
    · have hki : (k : Int) < ws.length := by omega
      obtain ⟨g, o, rfl, hgl, hc⟩ := (H.out.below hb).at_ hlt
      have HAT := Lib.hid (atoi_any ws[k] (HX.out _ (List.getElem_mem hlt)) wr (HG.out.below hb))
      have HST : Hid ((ws.take (k + 1)).map numOf = (ws.take k).map numOf ++ [numOf ws[k]]) := by
        unfold Hid
        rw [List.take_succ_eq_append_getElem hlt, List.map_append]; rfl
      have hlen : ((ws.take k).map numOf).length ≤ 100000 := by rw [List.length_map, List.length_take]; omega
      have HB := Lib.hid hb
      have HO := Lib.hid hown
      clear hown hb
      generalize ws[k] = x at *
      generalize (ws.take k).map numOf = xs at *
      go_wp2_with fail
      refine HAT.out.mono ?_
      rintro e w2 ⟨err, rfl, hb2⟩
      have HO2 := Lib.hid (HO.out.kept hb2)
      have HB2 : Hid (Below w.heap.size w w2) := HB.out.trans (hb2.mono HB.out.size)
      clear hb2 HO HB HAT hc
      go_wp2_with (at_builtin; refine wpList_append_i rfl _ _ rfl w.heap.size _ xs rfl HO2.out _ rfl ?_ ?_ ?_)
      case refine_1 => omega
      case refine_2 => exact HB2.out.size
      intro v' w3 hown3 _ hb3
      have HO3 := Lib.hid hown3
      have HB3 := Lib.hid hb3
      clear hown3 hb3
      go_wp2_with fail
      go_roundw
      case rel => exact ⟨k + 1, by omega, by go_num, by rw [HST.out]; exact HO3.out, HB2.out.trans HB3.out⟩
      case measure => simp [intOf]; omega
    · have hkn : k = ws.length := by omega
      subst hkn
      rw [List.take_length] at hown
      have HO := Lib.hid hown
      have HB := Lib.hid hb
      clear hown hb
      go_wp2_with fail
      go_ret
      exact ⟨_, rfl, HO.out, HB.out⟩

end Go.Proofs.YtpgcghnlepnoiaaGreatDoor

/-
  A range over strings.Lines: the iterator writes its own box in every round.
-/
namespace Go.Proofs.YtpgcghnlepnoiaaGreatDoor
open Go.RowKit
attribute [local go_sem] Oper.semAt_some

/-- an object as a thing of the world -/
def ObjA (g : Nat) (o : Obj) : Assn where
  at_ w F := w.heap[g]? = some o ∧ F g
  frame {w w'} {F G} h ho hd := ⟨(ho.block g (Array.getElem?_eq_some_iff.1 h.1).1 (hd g h.2)).trans h.1, h.2⟩
  cut {w} {F G} h hk := ⟨h.1, hk g (Array.getElem?_eq_some_iff.1 h.1).1 h.2⟩
theorem In.newObj {F : Nat → Prop} {w0 w : World} {l : List Assn} (h : In F w0 l w) (o : Obj) : In F w0 (ObjA w.heap.size o :: l) (w.alloc o) :=
  h.new ((Below.refl _ _).alloc (Nat.le_refl _) _) ⟨heap_alloc_new w o, Nat.le_refl _⟩
theorem In.obj {F : Nat → Prop} {w0 w : World} {l : List Assn} {g : Nat} {o : Obj} (h : In F w0 (ObjA g o :: l) w) : w.heap[g]? = some o := by
  obtain ⟨F1, h1, _⟩ := h.open_; exact h1.1
theorem In.putO {F : Nat → Prop} {w0 w : World} {l : List Assn} {g : Nat} {o : Obj} (h : In F w0 (ObjA g o :: l) w) (o' : Obj) : In F w0 (ObjA g o' :: l) (w.putObj g o') := by
  obtain ⟨F1, ⟨h1, h2⟩, _, h4⟩ := h.open_
  have hlt := (Array.getElem?_eq_some_iff.1 h1).1
  refine h4 (A' := ObjA g o') ⟨World.putObj_heap_same hlt, Or.inl h2⟩ ⟨rfl, rfl, rfl, by simp, fun k _ hf => World.putObj_heap_other ?_⟩
  rintro rfl
  exact hf h2

/-- lines are handed on one by one; the box sb holds what is left -/
def LinesGive (n gf sb : Nat) : Prop := ∀ (l : Nat) (J : Bs → Bs → World → Prop) (t : Bs) (W : World),
  (∀ t u u' W, J t u W → J t u' (W.setCell ⟨sb, 0, none⟩ (.string (mkS u')))) → (∀ t u W, J t u W → J t u W.drew) → (∀ t u W, J t u W → Blk W sb 9 #[.string (mkS u)]) →
  (∀ x rest t W, linesOf t = x :: linesOf rest → t = x ++ rest → J t rest W → YieldAt Fence.wide (n - 1) Tryz.prog l #[.string (mkS x)] W fun e W' => e = .returned (.bool true) ∧ J rest rest W') →
  J t t W → t.length ≤ 1000000 →
  CallsIn Fence.wide n Tryz.prog gf #[.func (.yield l) #[] #[], .pointer (some ⟨sb, 0, none⟩)] W fun e W' => (∃ v, e = .returned v) ∧ J [] [] W'

/-- a range over lines, out of its body's walk: no way out but the end -/
theorem wpIn_rangeLines {g : Operand} {p : Tmp} {assign body : Code} {Q : Exit → Act → World → Prop} {a : Act} {w w0 : World} {G : Nat → Prop} {gf sb : Nat} {t : Bs}
    (hg : a.eval g = .func (.func gf) #[] #[.pointer (some ⟨sb, 0, none⟩)]) (eg : ∀ args w, (callFunc gf args).run Tryz.prog w = .ok (.enter gf args) w) (hgive : LinesGive 2 gf sb) (hlen : t.length ≤ 1000000)
    (K : Bs → List Assn → Prop) {L0 : List Assn} (h0 : K t L0) (hw : In G w0 (Box sb 9 #[.string (mkS t)] :: L0) w)
    (q : Tmp) (hassign : ∀ (l : Nat) (x : Bs) (W : World) (Kc : Act → World → Prop), Kc { tmps := (a.tmps.setIfInBounds p (.string (mkS x))).setIfInBounds q (.string (mkS x)), defers := [] } W →
      assign.wpIn (Fence.wide.inRound l) 1 Tryz.prog (Exit.then Kc (fun _ _ _ => False)) { tmps := a.tmps.setIfInBounds p (.string (mkS x)), defers := [] } W)
    (hbody : ∀ (l : Nat) (x rest t : Bs) (A1 A2 : Assn) (L : List Assn) (W : World), linesOf t = x :: linesOf rest → t = x ++ rest → K t L → In G w0 (A1 :: A2 :: Box sb 9 #[.string (mkS rest)] :: L) W →
      body.wpIn (Fence.wide.inRound l) 1 Tryz.prog (fun e _ W' => e = .normal ∧ ∃ L', K rest L' ∧ In G w0 (A1 :: A2 :: Box sb 9 #[.string (mkS rest)] :: L') W') { tmps := (a.tmps.setIfInBounds p (.string (mkS x))).setIfInBounds q (.string (mkS x)), defers := [] } W)
    (hdone : ∀ (D : Nat) (L : List Assn) (W : World), K [] L → In G w0 L W → W.heap[D]? = some (.deferred (some [])) → In G w0 (ObjA D (.deferred (some [])) :: L) W → Q .normal { a with defers := { target := .collected D, args := #[] } :: a.defers } W) :
    (Code.rangeFunc g #[p] assign body).wpIn Fence.wide 3 Tryz.prog Q a w := by
  refine wpIn_rangeFunc fun fn hfn => ?_
  have hro : Fence.wide.round = none := rfl
  rw [hro]
  generalize hD : w.heap.size = D
  obtain ⟨rc, hrc⟩ : ∃ rc : LoopState → Loop, rc = fun st => { state := st, pending := none, fn, tmps := a.tmps, params := #[p], assign, body, defers := D } := ⟨_, rfl⟩
  have hI1 : In G w0 (ObjA (D + 1) (.loop (rc .ready)) :: ObjA D (.deferred (some [])) :: Box sb 9 #[.string (mkS t)] :: L0) ((w.alloc (.deferred (some []))).alloc (.loop (rc .ready))) := by
    have h1 := (hw.newObj (.deferred (some []))).newObj (.loop (rc .ready))
    rw [World.size_alloc, hD] at h1
    exact h1
  obtain ⟨W1, hW1⟩ : ∃ W1, (w.alloc (.deferred (some []))).alloc (.loop (rc .ready)) = W1 := ⟨_, rfl⟩
  rw [hW1] at hI1
  refine ⟨D + 1, [{ target := .collected D, args := #[] }], W1, { target := .fn (.func gf) #[.pointer (some ⟨sb, 0, none⟩)], args := #[.func (.yield (D + 1)) #[] #[]] }, W1, gf,
    #[.func (.yield (D + 1)) #[] #[], .pointer (some ⟨sb, 0, none⟩)], W1, ?_, ?_, ?_, ?_, fun _ => (by decide), ?_⟩
  · rw [← hW1, hrc, ← hD]; exact run_enterLoop_outer _ _ _ _ _
  · simp only [resolve, hg]
    simp [go_sem]
  · intro f' hf'; trivial
  · simp [invoke, go_sem, eg]
  · refine (hgive (D + 1) (fun t u W => ∃ L, K t L ∧ In G w0 (Box sb 9 #[.string (mkS u)] :: ObjA (D + 1) (.loop (rc .ready)) :: ObjA D (.deferred (some [])) :: L) W) t _ ?_ ?_ ?_ ?_ ?_ hlen).mono ?_
    · rintro t u u' W ⟨L, hk, hi⟩
      exact ⟨L, hk, hi.set 0 (.string (mkS u'))⟩
    · rintro t u W ⟨L, hk, hi⟩
      exact ⟨L, hk, hi.drew⟩
    · rintro t u W ⟨L, hk, hi⟩
      exact hi.blk
    · rintro x rest t W hx ht ⟨L, hk, hi⟩
      have hi1 : In G w0 (ObjA (D + 1) (.loop (rc .ready)) :: ObjA D (.deferred (some [])) :: Box sb 9 #[.string (mkS rest)] :: L) W := hi.perm ((List.Perm.swap _ _ _).trans ((List.Perm.swap _ _ _).cons _))
      have hl := hi1.obj
      have hy := run_yield (P := Tryz.prog) (args := #[.string (mkS x)]) hl (by rw [hrc]; rfl)
      rw [hrc] at hy
      refine ⟨fn, _, assign, body, hy, roundIn_of_wpIn hfn ?_⟩
      have hz : ((#[p] : Array Tmp).zip #[Value.string (mkS x)]).foldl (fun (tmps : Array Value) (q : Tmp × Value) => match q with | (t, a) => tmps.setIfInBounds t a) a.tmps = a.tmps.setIfInBounds p (.string (mkS x)) := by simp
      show assign.wpIn _ _ _ _ { tmps := ((#[p] : Array Tmp).zip #[Value.string (mkS x)]).foldl (fun (tmps : Array Value) (q : Tmp × Value) => match q with | (t, a) => tmps.setIfInBounds t a) a.tmps, defers := [] } W
      rw [hz]
      refine hassign _ x W _ ?_
      refine ⟨_, run_beginRound hl (by rw [hrc]), ?_⟩
      have hi2 := hi1.putO (.loop { rc .ready with state := .busy })
      refine wpIn_mono (hbody _ x rest t _ _ L _ hx ht hk hi2) ?_
      rintro e a3 W3 ⟨rfl, L', hk', hi3⟩
      have hl3 := hi3.obj
      have he := run_endRound (P := Tryz.prog) none hl3
      refine ⟨_, _, he, rfl, L', hk', ?_⟩
      have hi4 := hi3.putO (.loop (rc .ready))
      rw [hrc] at hi4 ⊢
      exact hi4.perm ((List.Perm.swap _ _ _).cons _ |>.trans (List.Perm.swap _ _ _))
    · exact ⟨L0, h0, hI1.perm ((List.Perm.swap _ _ _).cons _ |>.trans (List.Perm.swap _ _ _))⟩
    · rintro e W2 ⟨⟨v, rfl⟩, L, hk, hi⟩
      have hi1 : In G w0 (ObjA (D + 1) (.loop (rc .ready)) :: ObjA D (.deferred (some [])) :: Box sb 9 #[.string (mkS [])] :: L) W2 := hi.perm ((List.Perm.swap _ _ _).trans ((List.Perm.swap _ _ _).cons _))
      have he := run_endLoop (P := Tryz.prog) hi1.obj (by rw [hrc]; simp)
      have hi2 := (hi1.putO (.loop { rc .ready with state := .exhausted })).drop
      have hi3 : In G w0 (ObjA D (.deferred (some [])) :: L) (W2.putObj (D + 1) (.loop { rc .ready with state := .exhausted })) := hi2.swap.drop
      refine ⟨none, W2.putObj (D + 1) (.loop { rc .ready with state := .exhausted }), by rw [hrc] at he ⊢; exact he, ?_⟩
      exact hdone D L _ hk hi3.drop hi3.obj hi3

end Go.Proofs.YtpgcghnlepnoiaaGreatDoor

/-
  strings.Lines: the iterator's contract.
-/
namespace Go.Proofs.YtpgcghnlepnoiaaGreatDoor
open Go.RowKit
attribute [local go_sem] Oper.semAt_some

theorem indexByte_cases (c : UInt8) : ∀ (l : Bs), (Lib.indexByte l c = -1 ∧ ∀ x ∈ l, x ≠ c) ∨ ∃ p q, l = p ++ c :: q ∧ (∀ x ∈ p, x ≠ c) ∧ Lib.indexByte l c = p.length
  | [] => Or.inl ⟨rfl, by simp⟩
  | b :: l => by
    by_cases e : b = c
    · subst e
      exact Or.inr ⟨[], l, rfl, by simp, by simp [Lib.indexByte]⟩
    · have hb : (b == c) = false := by simpa using e
      rcases indexByte_cases c l with ⟨h1, h2⟩ | ⟨p, q, rfl, h2, h3⟩
      · refine Or.inl ⟨?_, ?_⟩
        · unfold Lib.indexByte; rw [hb, h1]; rfl
        · intro x hx
          rcases List.mem_cons.1 hx with rfl | hx
          · exact e
          · exact h2 x hx
      · refine Or.inr ⟨b :: p, q, rfl, ?_, ?_⟩
        · intro x hx
          rcases List.mem_cons.1 hx with rfl | hx
          · exact e
          · exact h2 x hx
        · unfold Lib.indexByte
          rw [hb, h3]
          have h4 : (((p.length : Nat) : Int) == -1) = false := by rw [beq_eq_false_iff_ne]; omega
          rw [h4]
          simp
theorem linesOf_last : ∀ (t : Bs), t ≠ [] → (∀ x ∈ t, x ≠ 10) → linesOf t = [t]
  | [], h, _ => absurd rfl h
  | [c], _, h => by
    have := h c List.mem_cons_self
    unfold linesOf
    rw [if_neg this]
    rfl
  | c :: d :: t, _, h => by
    have h1 := h c List.mem_cons_self
    have h2 := linesOf_last (d :: t) (by simp) fun x hx => h x (List.mem_cons_of_mem _ hx)
    unfold linesOf
    rw [if_neg h1, h2]
noncomputable def leftOf (sb : Nat) (w : World) : Nat := match w.cell? ⟨sb, 0, none⟩ with
  | some (.string b) => b.size
  | _ => 0
theorem leftOf_eq {sb : Nat} {w : World} {u : Bs} (h : Blk w sb 9 #[.string (mkS u)]) : leftOf sb w = u.length := by
  have := h.cell 0
  unfold leftOf
  rw [this]
  exact mkS_size u
theorem lines_any (s : ByteArray) (w : World) : Calls Tryz.prog 48 #[.string s] w fun e w' =>
    e = .returned (.func (.func 80) #[] #[.pointer (some ⟨w.heap.size, 0, none⟩)]) ∧ w' = w.alloc (.cells #[.string s] 9) := by
  go_enter Tryz.func48, Tryz.ntmps48
  go_wp2_with fail
  go_ret
  exact ⟨rfl, rfl⟩
set_option maxHeartbeats 4000000 in
set_option maxRecDepth 100000 in
theorem lines_give (sb : Nat) : LinesGive 2 80 sb := fun l J t W hset hdrew hblk hY h0 hlen => by
  have HS := Lib.hid hset
  have HD := Lib.hid hdrew
  have HBK := Lib.hid hblk
  have HY := Lib.hid hY
  have H0 := Lib.hid h0
  clear hset hdrew hblk hY h0
  refine callsIn_of_wp Tryz.func80 rfl trivial ?_ rfl
  simp only [Tryz.ntmps80, List.size_toArray, List.length_cons, List.length_nil, Nat.reduceAdd, Nat.reduceSub, Array.replicate_succ, Array.replicate_zero, List.push_toArray, List.append_toArray, List.nil_append, List.cons_append]
  gi_wp2
  gi_loopw [3] (fun _ wr => ∃ u : Bs, u.length ≤ 1000000 ∧ J u u wr) (fun _ wr => leftOf sb wr)
  case atStart => exact ⟨t, hlen, H0.out⟩
  case round =>
    obtain ⟨u, hu, hJ⟩ := hrel
    have hbk := HBK.out _ _ _ hJ
    have c0 : wr.cell? ⟨sb, 0, none⟩ = some (.string (mkS u)) := hbk.cell 0
    have f0 : wr.frozen? ⟨sb, 0, none⟩ = false := hbk.frozen 0
    have HJ := Lib.hid hJ
    have HLE : Hid (leftOf sb wr = u.length) := leftOf_eq hbk
    clear hJ hbk H0
    by_cases hu0 : u = []
    · subst hu0
      have hz : ¬ (0 < (mkS []).size) := by decide
      gi_wp2
      go_end0
      exact ⟨⟨_, rfl⟩, HJ.out⟩
    · have hlu : 0 < u.length := by
        cases u with
        | nil => exact absurd rfl hu0
        | cons c u => simp
      have hz : 0 < (mkS u).size := by rw [mkS_size]; exact hlu
      have HIB : Hid (∀ W, Calls Tryz.prog 81 #[.string (mkS u), .int .u8 10] W fun e w' => e = .returned (.int .i64 (Lib.indexByte u 10)) ∧ w' = W) := fun W => Tryz.strings_IndexByte (mkS u) 10 W
      rcases indexByte_cases 10 u with ⟨h1, h2⟩ | ⟨p, q, hpq, h2, h3⟩
      · obtain ⟨fn, tmps, assign, body, hy, hR⟩ := HY.out u [] u (wr.setCell ⟨sb, 0, none⟩ (.string ⟨#[]⟩)) (linesOf_last u hu0 h2) (by simp) (HS.out _ _ [] _ HJ.out)
        rw [h1] at HIB
        have HRR := Lib.hid hR
        clear hR h2 h1
        gi_wp2_with (refine ⟨trivial, ?_⟩; gi_at_call 81; refine (callsIn_wide.2 (HIB.out _)).mono ?_; rintro e w' ⟨rfl, rfl⟩)
        refine HRR.out.mono ?_
        rintro e W3 ⟨rfl, hJ3⟩
        have HJ3 := Lib.hid hJ3
        have HL3 : Hid (leftOf sb W3 = 0) := leftOf_eq (HBK.out _ _ _ hJ3)
        clear hJ3 hy HRR HIB c0 f0 HJ
        gi_wp2
        go_roundw
        case rel => exact ⟨[], by simp, HJ3.out⟩
        case measure => rw [HL3.out, HLE.out]; exact hlu
      · subst hpq
        rw [h3] at HIB
        have hsz : (mkS (p ++ 10 :: q)).size = p.length + 1 + q.length := by rw [mkS_size]; simp; omega
        have HX1 : Hid ((mkS (p ++ 10 :: q)).extract 0 (p.length + 1) = mkS (p ++ [10])) := by
          unfold Hid
          rw [mkS_extract]
          rw [show List.drop 0 ((p ++ 10 :: q).take (p.length + 1)) = p ++ [10] from by rw [List.drop_zero, List.take_append, List.take_of_length_le (by omega)]; simp]
        have HX2 : Hid ((mkS (p ++ 10 :: q)).extract (p.length + 1) (mkS (p ++ 10 :: q)).size = mkS q) := by
          unfold Hid
          rw [mkS_extract, mkS_size, List.take_length]
          simp
        have HLN : Hid (linesOf (p ++ 10 :: q) = (p ++ [10]) :: linesOf q) := linesOf_line p q h2
        have hj0 : (0 : Int) ≤ p.length := by omega
        have hj1 : (p.length : Int) + 1 ≤ (mkS (p ++ 10 :: q)).size := by rw [hsz]; omega
        have hj2 : p.length + 1 ≤ (mkS (p ++ 10 :: q)).size := by rw [hsz]; omega
        have hj3 : (p.length : Int) + 1 ≤ 9223372036854775807 := by simp at hu; omega
        generalize hss : mkS (p ++ 10 :: q) = ss at *
        have HSS := Lib.hid hss
        clear h2 h3 hss hsz
        gi_wp2_with (refine ⟨trivial, ?_⟩; gi_at_call 81; refine (callsIn_wide.2 (HIB.out _)).mono ?_; rintro e w' ⟨rfl, rfl⟩)
        gi_region
        rw [HX1.out, HX2.out]
        have hJ1 := HD.out _ _ _ (HS.out _ _ q _ HJ.out)
        generalize (World.setCell _ ⟨sb, 0, none⟩ (.string (mkS q))).drew = W1 at *
        obtain ⟨fn, tmps, assign, body, hy, hR⟩ := HY.out (p ++ [10]) q _ W1 HLN.out (by simp) hJ1
        have HRR := Lib.hid hR
        clear hR hJ1 c0 f0 HIB
        gi_wp2
        refine HRR.out.mono ?_
        rintro e W3 ⟨rfl, hJ3⟩
        have HJ3 := Lib.hid hJ3
        have HL3 : Hid (leftOf sb W3 = q.length) := leftOf_eq (HBK.out _ _ _ hJ3)
        clear hJ3 hy HRR HJ
        gi_wp2
        go_roundw
        case rel => exact ⟨q, by simp at hu; omega, HJ3.out⟩
        case measure => rw [HL3.out, HLE.out]; simp; omega

end Go.Proofs.YtpgcghnlepnoiaaGreatDoor

/-
  A region within a round of a range over a function, out of a plain walk: what is not 'defer' goes in a round as elsewhere.
-/
namespace Go.Proofs.YtpgcghnlepnoiaaGreatDoor
open Go.RowKit

theorem upon_round {P : Program} {o : Oper} {a : Act} {K : Act → World → Prop} {Q : Exit → Act → World → Prop} {r : Result Next} (lp m : Nat) (h : o.upon P a K Q r) : o.uponIn (Fence.wide.inRound lp) m P a K Q r := by
  cases r with
  | ok x w' =>
    cases x with
    | value v => exact h
    | skip => exact h
    | defer d => exact h
    | enter f args => exact ⟨(fun h0 => by cases h0), CallsIn.inRound lp (callsIn_wide.2 h)⟩
    | row row args =>
      refine ⟨(fun h0 => by cases h0), fun c cs _ => ?_⟩
      obtain ⟨v, w'', hr, hs⟩ := (show Rows P row args w' _ from h) c cs
      exact ⟨v, w'', hr, stepsIn_wide.2 hs⟩
    | round l f tmps assign body => exact (h : False).elim
    | _ => exact (h : False).elim
  | halt x w' =>
    cases x with
    | panic v => exact h
    | _ => exact (h : False).elim
theorem wp_round {P : Program} {o : Oper} {a : Act} {w : World} {K : Act → World → Prop} {Q : Exit → Act → World → Prop} (lp m : Nat) (hd : ∀ c, o.op ≠ .defer c) (h : o.wp P a w K Q) : o.wpIn (Fence.wide.inRound lp) m P a w K Q := by
  refine ⟨fun f _ => trivial, ?_⟩
  have e : o.semAt (Fence.wide.inRound lp).round a.eval = execOp a.eval o := Oper.semAt_eq _ _ _ hd
  rw [e]
  exact upon_round lp m h
theorem wpAny_round {P : Program} {md : Region.Mode} {ops : Array Oper} {Q : Exit → Act → World → Prop} (lp m : Nat) (hd : ∀ (i : Nat) (o : Oper), ops[i]? = some o → ∀ c, o.op ≠ .defer c) (hno : ¬ LetsOut Q) :
    ∀ (fuel : Nat) (listed : Array Bool) (a : Act) (w : World), wpAny P md ops Q fuel listed a w → wpAnyIn (Fence.wide.inRound lp) m P md ops Q fuel listed a w
  | 0, _, _, _, h => h
  | fuel + 1, listed, a, w, h => by
    refine ⟨h.1, fun i hi => ?_⟩
    have h2 := h.2 i hi
    unfold wpOp at h2
    unfold wpOpIn
    cases ho : ops[i]? with
    | none => rw [ho] at h2; exact wpAny_round lp m hd hno fuel _ a w h2
    | some o =>
      rw [ho] at h2
      simp only at h2 ⊢
      split
      · rename_i hw
        rw [if_pos hw] at h2
        rcases h2 with h2 | h2
        · exact Oper.wpIn_mono (fun a w h => wpAny_round lp m hd hno fuel _ a w h) (wp_round lp m (hd i o ho) h2)
        · exact absurd h2.2 hno
      · rename_i hw
        rw [if_neg hw] at h2
        exact ⟨fun f _ => trivial, wpAny_round lp m hd hno fuel _ _ w h2⟩
def noDefer (l : List Oper) : Bool := l.all fun o => match o.op with
  | .defer _ => false
  | _ => true
theorem noDefer_spec {l : List Oper} (h : noDefer l = true) (i : Nat) (o : Oper) (hi : l.toArray[i]? = some o) (c : Call) : o.op ≠ .defer c := by
  intro e
  have hm : o ∈ l := by
    have : l[i]? = some o := by simpa using hi
    exact List.mem_of_getElem? this
  have h1 := List.all_eq_true.1 h o hm
  rw [e] at h1
  cases h1
/-- a drawn region in a round whose last operations, from number n on, come in their order, and the others are still -/
theorem wpIn_round_tail {P : Program} {id lp m : Nat} {Q : Exit → Act → World → Prop} {a : Act} {w : World} {l : List Oper} (n : Nat) (hm : P.follows .mixedOrders = true) (hB : Region.lexTailB .any l.toArray n = true) (hd : noDefer l = true) (hno : ¬ LetsOut Q)
    (h : wpStill P l.toArray w.drew (fun a' => wpList P l.toArray Q (l.drop n) a' w.drew) (l.take n) a) : (Code.region id l.toArray true).wpIn (Fence.wide.inRound lp) m P Q a w := by
  refine wpIn_region_any hm (wpAny_round lp m (noDefer_spec hd) hno _ _ _ _ ?_)
  simp only [Region.lexTailB, Bool.and_eq_true, decide_eq_true_eq] at hB
  obtain ⟨⟨⟨⟨h1, h2⟩, h3⟩, h4⟩, h5⟩ := hB
  have g2 : n < l.length := by simpa using h2
  have g3 : (l.take n).length = n := by rw [List.length_take]; omega
  have hinv : HeadInv .any l.toArray n (Array.replicate l.toArray.size false) := ⟨by simp, fun j oj _ hl => (by rw [getD_replicate_false] at hl; cases hl), fun t _ ht => getD_in (by simpa using ht) (getD_replicate_false _ _)⟩
  have hlex := wpAnyL_lex (md := .any) (g := l.length - n) h1 h3 h4 h2 (l.take n) 0 _ a (fun j hj => by
    rw [g3] at hj
    rw [List.getElem?_take_of_lt hj, Nat.zero_add]
    simp) (by rw [g3, Nat.zero_add]) hinv (by rw [g3]; simpa using h5) h
  have hend := wpAny_of_head (Q' := Q) (g := l.length - n) (fun listed a' hL => by
    have hq := wpAny_of_seq (md := .any) (Q' := Q) (l.drop n) n listed a' w.drew (fun j => by simp [List.getElem?_drop]) (by rw [List.length_drop]; exact hL.1) hL.2
    rwa [List.length_drop] at hq) _ _ _ hlex
  have hsz : (l.take n).length + (l.length - n) = l.toArray.size := by rw [g3]; simp; omega
  rw [hsz] at hend
  exact hend

end Go.Proofs.YtpgcghnlepnoiaaGreatDoor
