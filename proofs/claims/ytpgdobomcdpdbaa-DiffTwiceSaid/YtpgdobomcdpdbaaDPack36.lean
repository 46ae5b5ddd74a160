/-
  Several texts in one (merged by a program of mine): FamGrow, FamUse.
-/
import Derived.Test.YtpgdobomcdpdbaaDPack35
/-
  The closed fact 'related', and 'grown': a family by some ops.
-/
namespace Go.Proofs.Ytpgdobomcdpdbaa
open Go.RowKit

noncomputable def growR (m : Fam) (o : OpM) : Fam := if o.d = 5 then (adoptR m o.a o.t).1 else if o.d = 6 then (loosenR m o.a).1 else if o.d = 2 then goneR m o.a else m
noncomputable def growsR (os : List OpM) : Fam := os.foldl growR []
theorem growsR_snoc (os : List OpM) (o : OpM) : growsR (os ++ [o]) = growR (growsR os) o := by simp [growsR, List.foldl_append]
theorem growR_ok {m : Fam} (h : FamOk m) (o : OpM) : FamOk (growR m o) := by
  unfold growR
  split
  · exact h.adopt _ _
  · split
    · exact h.loosen _
    · split
      · exact h.gone _
      · exact h
theorem growR_len (m : Fam) (o : OpM) : (growR m o).length ≤ m.length + 1 := by
  unfold growR
  split
  · exact adopt_len _ _ _
  · split
    · exact Nat.le_succ_of_le (loosen_len _ _)
    · split
      · exact Nat.le_succ_of_le (gone_len _ _)
      · exact Nat.le_succ _
theorem grows_aux (os : List OpM) : ∀ m : Fam, FamOk m → FamOk (os.foldl growR m) ∧ (os.foldl growR m).length ≤ m.length + os.length := by
  induction os with
  | nil => exact fun m h => ⟨h, Nat.le_refl _⟩
  | cons o os ih =>
    intro m h
    have h1 := ih (growR m o) (growR_ok h o)
    have h2 := growR_len m o
    refine ⟨h1.1, ?_⟩
    have := h1.2
    rw [List.foldl_cons, List.length_cons]
    omega
theorem growsR_ok (os : List OpM) : FamOk (growsR os) := (grows_aux os [] FamOk.nil).1
theorem growsR_len (os : List OpM) : (growsR os).length ≤ os.length := by
  have := (grows_aux os [] FamOk.nil).2
  unfold growsR
  simpa using this

theorem opZero : (ints (List.replicate 16 0)) = ints [0, 0, 0, 0, 0, 0, 0, 0, 0, 0, 0, 0, 0, 0, 0, 0] := rfl
set_option maxHeartbeats 1000000 in
set_option maxRecDepth 100000 in
theorem grown_in {w w1 : World} {l : List Assn} {A : Option Addr} {c : Nat} {os : List OpM} (H : OpsIn w w.heap.size A os) (hlen : os.length ≤ 1099511627776) (hb8 : ∀ o ∈ os, o.b.v.length = 8) (hI : In (fun _ => False) w l w1) :
    Calls Try.prog 24 #[.slice A os.length c] w1 fun e w' => ∃ p, e = .returned (.pointer (some ⟨p, 0, none⟩)) ∧ In (fun _ => False) w (FamA p (growsR os) :: l) w' := by
  have H := Lib.hid H
  have HI0 := Lib.hid hI
  have H8 := Lib.hid hb8
  clear hI hb8
  go_enter Try.func24, Try.ntmps24
  go_wp2_with fail
  refine (fnew_in HI0.out).mono ?_
  rintro e w2 ⟨p, rfl, hI⟩
  have HI1 := Lib.hid hI
  clear hI HI0
  go_wp2_with fail
  go_loopw [11] (fun i w' => ∃ k : Nat, k ≤ os.length ∧ i = .int .i64 k ∧ In (fun _ => False) w (FamA p (growsR (os.take k)) :: l) w') (fun i _ => os.length - (intOf i).toNat)
  case atStart => exact ⟨0, Nat.zero_le _, rfl, HI1.out⟩
  case round =>
    clear HI1
    obtain ⟨k, hk, rfl, hI⟩ := hrel
    have HI := Lib.hid hI
    clear hI
    by_cases hlt : k < os.length
    · have hki : (k : Int) < os.length := by omega
      obtain ⟨b, o, rfl, hbl, q1⟩ := (H.out.below HI.out.below0).at_ hlt
      have HS : Hid (growsR (os.take (k + 1)) = growR (growsR (os.take k)) os[k]) := by
        unfold Hid; rw [List.take_succ_eq_append_getElem hlt, growsR_snoc]
      have h16 : (OpM.list os[k]).length = 16 := OpM.len (H8.out _ (List.getElem_mem hlt))
      generalize os[k] = op at *
      generalize growsR (os.take k) = m at *
      go_upto_region 7 with (fail)
      refine wp_abs (In (fun _ => False) w (Box wr.heap.size 103 (ints op.list) :: FamA p m :: l)) (HI.out.struct 103 [0, 0, 0, 0, 0, 0, 0, 0, 0, 0, 0, 0, 0, 0, 0, 0] op.list h16) ?_
      generalize wr.heap.size = ob
      intro w3 hI3
      obtain ⟨d, ⟨bk, bv⟩, ⟨a1, a2⟩, ⟨t1, t2⟩, kk, nn⟩ := op
      have hv8 : bv.length = 8 := by simpa [OpM.list, Beast.list] using h16
      have hdrop : (OpM.list ⟨d, ⟨bk, bv⟩, (a1, a2), (t1, t2), kk, nn⟩).drop 10 = [a1, a2, t1, t2, kk, nn] := by
        have : (OpM.list ⟨d, ⟨bk, bv⟩, (a1, a2), (t1, t2), kk, nn⟩) = ([d] ++ (bk :: bv)) ++ [a1, a2, t1, t2, kk, nn] := rfl
        rw [this, List.drop_left' (by simp [hv8])]
      have q2 : row? w3 ob 10 2 = some (ints [a1, a2]) := by
        rw [hI3.blk.row_ints 10 2 (by omega), hdrop]; rfl
      have q3 : row? w3 ob 12 2 = some (ints [t1, t2]) := by
        rw [hI3.blk.row_ints 12 2 (by omega), show (12 : Nat) = 10 + 2 from rfl, ← List.drop_drop, hdrop]; rfl
      have q0 : w3.cell? ⟨ob, 0, none⟩ = some (.int .i64 d) := hI3.blk.cell 0
      have HI3 := Lib.hid hI3.swap
      clear hI3 q1 hdrop HI h16 hv8
      by_cases h5 : d = 5
      · have hd : (d == 5) = true := by simp [h5]
        have HG : Hid (growR m ⟨d, ⟨bk, bv⟩, (a1, a2), (t1, t2), kk, nn⟩ = (adoptR m (a1, a2) (t1, t2)).1) := by unfold Hid growR; rw [if_pos h5]
        clear h5
        go_wp2_with fail
        refine (fadopt_in HI3.out (a1, a2) (t1, t2)).mono ?_
        rintro e w4 ⟨rfl, hI4⟩
        have HI4 := Lib.hid hI4
        clear hI4
        go_wp2_with fail
        go_roundw
        case rel => exact ⟨k + 1, by omega, by go_num, by rw [HS.out, HG.out]; exact HI4.out.swap.drop⟩
        case measure => simp [intOf]; omega
      · have hd : (d == 5) = false := by simp [h5]
        by_cases h6 : d = 6
        · have hd6 : (d == 6) = true := by simp [h6]
          have HG : Hid (growR m ⟨d, ⟨bk, bv⟩, (a1, a2), (t1, t2), kk, nn⟩ = (loosenR m (a1, a2)).1) := by unfold Hid growR; rw [if_neg h5, if_pos h6]
          clear h5 h6
          go_wp2_with fail
          refine (floosen_in HI3.out (a1, a2)).mono ?_
          rintro e w4 ⟨rfl, hI4⟩
          have HI4 := Lib.hid hI4
          clear hI4
          go_wp2_with fail
          go_roundw
          case rel => exact ⟨k + 1, by omega, by go_num, by rw [HS.out, HG.out]; exact HI4.out.swap.drop⟩
          case measure => simp [intOf]; omega
        · have hd6 : (d == 6) = false := by simp [h6]
          by_cases h2 : d = 2
          · have hd2 : (d == 2) = true := by simp [h2]
            have HG : Hid (growR m ⟨d, ⟨bk, bv⟩, (a1, a2), (t1, t2), kk, nn⟩ = goneR m (a1, a2)) := by unfold Hid growR; rw [if_neg h5, if_neg h6, if_pos h2]
            clear h5 h6 h2
            go_wp2_with fail
            refine (fgone_in HI3.out (a1, a2)).mono ?_
            rintro e w4 ⟨rfl, hI4⟩
            have HI4 := Lib.hid hI4
            clear hI4
            go_wp2_with fail
            go_roundw
            case rel => exact ⟨k + 1, by omega, by go_num, by rw [HS.out, HG.out]; exact HI4.out.swap.drop⟩
            case measure => simp [intOf]; omega
          · have hd2 : (d == 2) = false := by simp [h2]
            have HG : Hid (growR m ⟨d, ⟨bk, bv⟩, (a1, a2), (t1, t2), kk, nn⟩ = m) := by unfold Hid growR; rw [if_neg h5, if_neg h6, if_neg h2]
            clear h5 h6 h2
            go_wp2_with fail
            go_roundw
            case rel => exact ⟨k + 1, by omega, by go_num, by rw [HS.out, HG.out]; exact HI3.out.swap.drop⟩
            case measure => simp [intOf]; omega
    · have : k = os.length := by omega
      subst this
      rw [List.take_length] at HI
      go_wp2_with fail
      go_ret
      exact ⟨p, rfl, HI.out⟩

end Go.Proofs.Ytpgdobomcdpdbaa

/-
  Slices of handles and of bonds handed to vivariumref.Has and Eq; the closed fact 'related'.
-/
namespace Go.Proofs.Ytpgdobomcdpdbaa
open Go.RowKit

theorem row_after {w w' : World} {g o n : Nat} {x : Array Value} (hb : Below w.heap.size w w') (h : row? w g o n = some x) : row? w' g o n = some x := by
  have hlt : g < w.heap.size := by
    unfold row? at h
    split at h
    · rename_i hg; exact (Array.getElem?_eq_some_iff.1 hg).1
    · cases h
  rw [row_below hb hlt]; exact h
theorem row_alloc {w : World} {g o n : Nat} {x : Array Value} (ob : Obj) (h : row? w g o n = some x) : row? (w.alloc ob) g o n = some x := row_after ((Below.refl _ _).alloc (Nat.le_refl _) _) h
theorem In.newLit {G : Nat → Prop} {w0 w : World} {l : List Assn} (h : In G w0 l w) (E : TypeId) (size n : Nat) (xs : List Value) (hl : xs.length = n * size) (hn : n ≤ maxLen) : In G w0 (RowA E size (.slice (some ⟨w.heap.size, 0, none⟩) n n) n xs :: l) (w.alloc (.cells xs.toArray E)) :=
  h.new (A := RowA E size (.slice (some ⟨w.heap.size, 0, none⟩) n n) n xs) ((Below.refl _ _).alloc (Nat.le_refl _) _)
    ⟨⟨hl, Or.inr ⟨w.heap.size, n, xs.toArray, rfl, Nat.zero_le _, heap_alloc_new w _, Nat.le_refl _, hn, by simpa using hl, by simp [← hl]⟩⟩, fun k hk => by simp [Value.ownBlock] at hk; omega⟩
theorem own_chunks {α : Type} {enc : α → List Value} {f : α → List Int} {size : Nat} {w : World} {E : TypeId} {v : Value} {xs : List α} (he : ∀ x, enc x = (f x).map (Value.int .i64)) (hf : ∀ x, (f x).length = size)
    (h : w.ownsRow 0 E size v xs.length (xs.flatMap enc)) : ∃ A c, v = .slice A xs.length c ∧ xs.length ≤ c ∧ c ≤ maxLen ∧ Chunks w w.heap.size size A (xs.map f) ∧ (0 < xs.length → ∃ g, A = some ⟨g, 0, none⟩) := by
  obtain ⟨A, c, rfl, hc1, hc2, hA⟩ := own_form h
  refine ⟨A, c, rfl, hc1, hc2, ⟨fun r hr => by obtain ⟨x, _, rfl⟩ := List.mem_map.1 hr; exact hf x, fun h0 => ?_⟩, hA⟩
  rw [List.length_map] at h0
  obtain ⟨g, rfl⟩ := hA h0
  refine ⟨g, 0, rfl, (h.lt g rfl).2, fun k r hr => ?_⟩
  rw [List.getElem?_map] at hr
  obtain ⟨x, hx, rfl⟩ := Option.map_eq_some_iff.1 hr
  obtain ⟨hk, rfl⟩ := List.getElem?_eq_some_iff.1 hx
  have := own_row h hk
  rw [flat_at (fun x => by rw [he, List.length_map, hf]) xs k hk, he] at this
  rw [Nat.zero_add]
  exact this
theorem Chunks.take {w : World} {B size : Nat} {A : Option Addr} {rs : List (List Int)} (h : Chunks w B size A rs) (k : Nat) : Chunks w B size A (rs.take k) := by
  refine ⟨fun r hr => h.1 r (List.mem_of_mem_take hr), fun h0 => ?_⟩
  obtain ⟨b, o, e, hb, hr⟩ := h.2 (by rw [List.length_take] at h0; omega)
  exact ⟨b, o, e, hb, fun j r hj => hr j r (by rw [List.getElem?_take] at hj; split at hj; exact hj; cases hj)⟩
theorem mem_map_hL {x : Hd} {hs : List Hd} : decide (hL x ∈ hs.map hL) = decide (x ∈ hs) := by
  rw [Bool.eq_iff_iff, decide_eq_true_eq, decide_eq_true_eq, List.mem_map]
  constructor
  · rintro ⟨y, hy, e⟩
    rw [← hL_inj e]; exact hy
  · exact fun h => ⟨x, h, rfl⟩
theorem bL_inj {a b : Hd × Hd} (h : bL a = bL b) : a = b := by
  unfold bL at h
  injection h with h1 h
  injection h with h2 h
  injection h with h3 h
  injection h with h4 _
  exact Prod.ext (Prod.ext h1 h2) (Prod.ext h3 h4)
theorem map_inj' {α β : Type} {f : α → β} (hf : ∀ a b, f a = f b → a = b) : ∀ {xs ys : List α}, xs.map f = ys.map f → xs = ys
  | [], [], _ => rfl
  | [], _ :: _, h => by simp at h
  | _ :: _, [], h => by simp at h
  | x :: xs, y :: ys, h => by
    rw [List.map_cons, List.map_cons] at h
    injection h with h1 h2
    rw [hf _ _ h1, map_inj' hf h2]

section
variable {G : Nat → Prop} {w0 w : World} {l : List Assn} {v u : Value}
theorem hasH_in {hs : List Hd} (h : In G w0 (RowH v hs :: l) w) (x : Hd) : Calls Try.prog 27 #[v, hdV x] w fun e w' => e = .returned (.bool (decide (x ∈ hs))) ∧ Below w.heap.size w w' := by
  obtain ⟨A, c, rfl, hc1, hc2, hch, _⟩ := own_chunks (f := hL) (fun _ => rfl) hL_len h.rowAt
  have := hasHandle_any A c (hs.map hL) (hL x) w hch (by rw [List.length_map]; omega) rfl
  rw [List.length_map, mem_map_hL] at this
  exact this
theorem hasH_take {hs : List Hd} {A : Option Addr} {c : Nat} {n : Nat} (h : In G w0 (RowH (.slice A n c) hs :: l) w) (hn : n = hs.length) (k c' : Nat) (hk : k ≤ hs.length) (x : Hd) : Calls Try.prog 27 #[.slice A k c', hdV x] w fun e w' => e = .returned (.bool (decide (x ∈ hs.take k))) ∧ Below w.heap.size w w' := by
  subst hn
  obtain ⟨A', c2, e, hc1, hc2, hch, _⟩ := own_chunks (f := hL) (fun _ => rfl) hL_len h.rowAt
  injection e with e1 e2 e3
  subst e1
  have hl : ((hs.map hL).take k).length = k := by rw [List.length_take, List.length_map]; omega
  have := hasHandle_any A c' ((hs.map hL).take k) (hL x) w (hch.take k) (by rw [hl]; omega) rfl
  rw [hl, ← List.map_take, mem_map_hL] at this
  exact this
theorem hasB_in {bs : List (Hd × Hd)} (h : In G w0 (RowB v bs :: l) w) (x : Hd × Hd) : Calls Try.prog 31 #[v, .agg (ints (bL x))] w fun e w' => e = .returned (.bool (decide (x ∈ bs))) ∧ Below w.heap.size w w' := by
  obtain ⟨A, c, rfl, hc1, hc2, hch, _⟩ := own_chunks (f := bL) (fun _ => rfl) bL_len h.rowAt
  have := hasBond_any A c (bs.map bL) (bL x) w hch (by rw [List.length_map]; omega) rfl
  have hd : decide (bL x ∈ bs.map bL) = decide (x ∈ bs) := by
    rw [Bool.eq_iff_iff, decide_eq_true_eq, decide_eq_true_eq, List.mem_map]
    exact ⟨fun ⟨y, hy, e⟩ => by rw [← bL_inj e]; exact hy, fun h => ⟨x, h, rfl⟩⟩
  rw [List.length_map, hd] at this
  exact this
theorem eqB_in {bs cs : List (Hd × Hd)} (h : In G w0 (RowB v bs :: RowB u cs :: l) w) : Calls Try.prog 30 #[v, u] w fun e w' => e = .returned (.bool (decide (bs = cs))) ∧ Below w.heap.size w w' := by
  obtain ⟨A, c, rfl, hc1, hc2, hch, _⟩ := own_chunks (f := bL) (fun _ => rfl) bL_len h.rowAt
  obtain ⟨A', c', rfl, hc1', hc2', hch', _⟩ := own_chunks (f := bL) (fun _ => rfl) bL_len h.swap.rowAt
  have := eqBond_any A A' c c' (bs.map bL) (cs.map bL) w hch hch' (by rw [List.length_map]; omega) (by rw [List.length_map]; omega)
  have hd : sameRows (bs.map bL) (cs.map bL) = decide (bs = cs) := by
    unfold sameRows
    rw [Bool.eq_iff_iff, decide_eq_true_eq, decide_eq_true_eq]
    exact ⟨fun h => map_inj' (fun _ _ => bL_inj) h, fun h => by rw [h]⟩
  rw [List.length_map, List.length_map, hd] at this
  exact this
theorem eqH_in {bs cs : List Hd} (h : In G w0 (RowH v bs :: RowH u cs :: l) w) : Calls Try.prog 53 #[v, u] w fun e w' => e = .returned (.bool (decide (bs = cs))) ∧ Below w.heap.size w w' := by
  obtain ⟨A, c, rfl, hc1, hc2, hch, _⟩ := own_chunks (f := hL) (fun _ => rfl) hL_len h.rowAt
  obtain ⟨A', c', rfl, hc1', hc2', hch', _⟩ := own_chunks (f := hL) (fun _ => rfl) hL_len h.swap.rowAt
  have := eqHandle_any A A' c c' (bs.map hL) (cs.map hL) w hch hch' (by rw [List.length_map]; omega) (by rw [List.length_map]; omega)
  have hd : sameRows (bs.map hL) (cs.map hL) = decide (bs = cs) := by
    unfold sameRows
    rw [Bool.eq_iff_iff, decide_eq_true_eq, decide_eq_true_eq]
    exact ⟨fun h => map_inj' (fun _ _ => hL_inj) h, fun h => by rw [h]⟩
  rw [List.length_map, List.length_map, hd] at this
  exact this
theorem funder_in {p : Nat} {m : Fam} (h : In G w0 (FamA p m :: l) w) (hl : m.length ≤ 1099511627776) (a : Hd) :
    Calls Try.prog 25 #[.pointer (some ⟨p, 0, none⟩), hdV a] w fun e w' => ∃ v, e = .returned v ∧ In G w0 (RowH v (under m a) :: FamA p m :: l) w' := by
  obtain ⟨rk, R, hr⟩ := h.famOk.acyc
  exact funder_aux h.famOk hl rk R hr (R - rk a + 1) a (Nat.lt_succ_self _) h
end

def rm1 : Fam := [((2, 0), (1, 0))]
def rm2 : Fam := [((2, 0), (1, 0)), ((3, 0), (2, 0))]
theorem rel1 : adoptR [] (2, 0) (1, 0) = (rm1, 0) := by
  unfold adoptR
  rw [if_neg]
  · rfl
  · rintro (e | e)
    · simp at e
    · exact Up.none rfl e
theorem rel2 : adoptR rm1 (3, 0) (2, 0) = (rm2, 0) := by
  have hc : Chain rm1 (2, 0) [(1, 0)] := .cons rfl (.nil rfl)
  unfold adoptR
  rw [if_neg]
  · rfl
  · rintro (e | e)
    · simp at e
    · have := hc.mem.2 e
      simp at this
theorem rel3 : adoptR rm2 (1, 0) (3, 0) = (rm2, 8) := by
  unfold adoptR
  rw [if_pos (Or.inr (.more (p := (2, 0)) rfl (.one rfl)))]
theorem rel4 (hm : FamOk rm2) : under rm2 (1, 0) = [(2, 0), (3, 0)] := by
  have k1 : kids rm2 (1, 0) = [(2, 0)] := by unfold kids; rw [show kidsRaw rm2 (1, 0) = [(2, 0)] from by decide]; exact List.mergeSort_singleton _
  have k2 : kids rm2 (2, 0) = [(3, 0)] := by unfold kids; rw [show kidsRaw rm2 (2, 0) = [(3, 0)] from by decide]; exact List.mergeSort_singleton _
  have k3 : kids rm2 (3, 0) = [] := by unfold kids; rw [show kidsRaw rm2 (3, 0) = [] from by decide]; exact List.mergeSort_nil
  have u3 : under rm2 (3, 0) = [] := by rw [under_eq hm.nodup hm.acyc, k3]; rfl
  have u2 : under rm2 (2, 0) = [(3, 0)] := by rw [under_eq hm.nodup hm.acyc, k2]; simp [u3]
  rw [under_eq hm.nodup hm.acyc, k1]; simp [u2]


end Go.Proofs.Ytpgdobomcdpdbaa
