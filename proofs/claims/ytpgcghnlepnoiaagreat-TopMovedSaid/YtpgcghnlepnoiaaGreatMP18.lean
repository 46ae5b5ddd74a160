/-
  Several texts in one (merged by a program of mine): Do, Clash.
-/
import Derived.Test.YtpgcghnlepnoiaaGreatMP17
import Derived.StillTailTactics
import Derived.BigQuiet
import Derived.Deep.DeepCutAuto
set_option linter.unusedVariables false
set_option linter.unusedSimpArgs false
set_option linter.unusedSectionVars false
/-
  The contract of system.Do.
-/
namespace Go.Proofs.YtpgcghnlepnoiaaGreat
open Go.RowKit

theorem cut_any (n : Int) (w : World) : Calls Tryz.prog 71 #[.int .i64 n] w fun e w' => e = .returned (.int .i64 (cutI n)) ∧ w = w' := by
  have hd : Hid (cutI n = if n < -1000000000 then -1000000000 else if 1000000000 < n then 1000000000 else n) := rfl
  go_enter Tryz.func71, Tryz.ntmps71
  go_wp2_with fail
  all_goals go_ret
  all_goals refine ⟨ret_int ?_, rfl⟩
  all_goals rw [hd.out]
  all_goals (split <;> (try split) <;> omega)

theorem cut_same (n : Int) (w : World) : Calls Tryz.prog 71 #[.int .i64 n] w fun e w' => e = .returned (.int .i64 (cutI n)) ∧ w' = w := (cut_any n w).mono fun _ _ h => ⟨h.1, h.2.symm⟩

/-- what lies in memory while Do runs: the beast, the system, the result -/
def DoMem (w : World) (g : Nat) (b : Beast) (s : Sys) (w1 : World) : Prop :=
  Blk w1 g 25 (ints b.list) ∧ Blk w1 (g + 1) 54 (ints s.list) ∧ Blk w1 (g + 1 + 1) 25 (ints [0, 0, 0, 0, 0, 0, 0, 0, 0]) ∧ Below g w w1
theorem DoMem.after {w w1 w2 : World} {g : Nat} {b : Beast} {s : Sys} (h : DoMem w g b s w1) (hb : Below w1.heap.size w1 w2) : DoMem w g b s w2 :=
  ⟨h.1.after hb, h.2.1.after hb, h.2.2.1.after hb, h.2.2.2.trans (hb.mono (by have := h.1.lt; omega))⟩
theorem DoMem.facts {w w1 : World} {g : Nat} {b : Beast} {s : Sys} (h : DoMem w g b s w1) (hb : b.v.length = 8) :
    w1.cell? ⟨g, 0, none⟩ = some (.int .i64 b.k) ∧ w1.cell? ⟨g + 1, 3, none⟩ = some (.int .i64 s.read) ∧ w1.cell? ⟨g + 1, 4, none⟩ = some (.int .i64 s.write) ∧ w1.cell? ⟨g + 1, 5, none⟩ = some (.int .i64 s.act) ∧ w1.cell? ⟨g + 1, 6, none⟩ = some (.int .i64 s.n) ∧
    row? w1 (g + 1) 0 3 = some (ints s.q.list) ∧ row? w1 g 0 9 = some (ints b.list) ∧ fits w1 (g + 1 + 1) 0 9 = true :=
  ⟨h.1.cell 0, h.2.1.cell 3, h.2.1.cell 4, h.2.1.cell 5, h.2.1.cell 6, h.2.1.row_ints 0 3 (by simp [Sys.list]), h.1.row_all (by simp [Beast.list, hb]), h.2.2.1.fits 0 9 (by decide)⟩

theorem sysErr_ok {s : Sys} (h : sysErr s = 0) : isSetB s.q.need = true ∧ isSetB s.q.nt = true ∧ isSetB s.q.any = true ∧ isSetB s.read = true ∧ isSetB s.write = true ∧ 1 ≤ s.act ∧ s.act ≤ 3 ∧ -1000000 ≤ s.n ∧ s.n ≤ 1000000 ∧ (s.act = 3 → s.n = 0) ∧ (s.act ≠ 2 → s.read = 0) := by
  unfold sysErr at h
  split at h
  · omega
  · rename_i hq
    split at h
    · omega
    · split at h
      · omega
      · rename_i h1 h2
        have hq' : queryErr s.q = 0 := by omega
        unfold queryErr at hq'
        split at hq'
        · rename_i h3
          simp only [Bool.and_eq_true] at h3
          simp only [Bool.or_eq_true, Bool.not_eq_true', decide_eq_true_eq, Bool.and_eq_true, not_or, not_and] at h1 h2
          refine ⟨h3.1.1, h3.1.2, h3.2, by simpa using h1.1.1.1.1.1, by simpa using h1.1.1.1.1.2, by omega, by omega, by omega, by omega, ?_, ?_⟩
          · intro h; have := h2.1 h; omega
          · intro h; have := h2.2 h; omega
        · omega
theorem isSet_iff {m : Int} : isSetB m = true ↔ 0 ≤ m ∧ m ≤ 255 := by simp [isSetB]

theorem vals_bound (b : Beast) (he : ∀ j, j < 8 → (b.k.toNat.testBit j = false → b.v.getD j 0 = 0) ∧ -1000000000 ≤ b.v.getD j 0 ∧ b.v.getD j 0 ≤ 1000000000) (s : Sys) (l : List Nat) (hl : ∀ k ∈ l, k < 8) :
    s.n - 1000000000 * l.length ≤ sumTo b s l ∧ sumTo b s l ≤ s.n + 1000000000 * l.length := by
  have h : ∀ (l : List Nat) (a : Int), (∀ k ∈ l, k < 8) → a - 1000000000 * l.length ≤ l.foldl (fun a k => a + b.v.getD k 0) a ∧ l.foldl (fun a k => a + b.v.getD k 0) a ≤ a + 1000000000 * l.length := by
    intro l
    induction l with
    | nil => intro a _; simp
    | cons k l ih =>
      intro a hl
      have h1 := ih (a + b.v.getD k 0) fun q hq => hl q (by simp [hq])
      have h2 := (he k (hl k (by simp))).2
      rw [List.foldl_cons, List.length_cons]
      omega
  exact h l s.n hl
theorem sumTo_snoc (b : Beast) (s : Sys) (l : List Nat) (k : Nat) : sumTo b s (l ++ [k]) = sumTo b s l + b.v.getD k 0 := by simp [sumTo]

/-- .. with what is to be handed back, and the kinds that are written -/
def OutMem (w : World) (g g6 : Nat) (b : Beast) (s : Sys) (A : Option Addr) (q : Nat) (l : List Int) (vals : List Int) (w1 : World) : Prop :=
  DoMem w g b s w1 ∧ Blk w1 g6 25 (ints (b.k :: vals)) ∧ g + 2 < g6 ∧ ReadsI w1 g6 A q l
theorem OutMem.after {w w1 w2 : World} {g g6 : Nat} {b : Beast} {s : Sys} {A : Option Addr} {q : Nat} {l vals : List Int} (h : OutMem w g g6 b s A q l vals w1) (hb : Below w1.heap.size w1 w2) : OutMem w g g6 b s A q l vals w2 :=
  ⟨h.1.after hb, h.2.1.after hb, h.2.2.1, Reads.below h.2.2.2 (hb.mono (by have := h.2.1.lt; omega))⟩
theorem OutMem.set {w w1 : World} {g g6 : Nat} {b : Beast} {s : Sys} {A : Option Addr} {q : Nat} {l vals : List Int} (h : OutMem w g g6 b s A q l vals w1) (k : Nat) (x : Int) :
    OutMem w g g6 b s A q l (vals.set k x) (w1.setCell ⟨g6, 1 + k, none⟩ (.int .i64 x)) := by
  obtain ⟨⟨h1, h2, h3, h4⟩, h5, h6, h7⟩ := h
  refine ⟨⟨h1.far (by omega) _ _, h2.far (by omega) _ _, h3.far (by omega) _ _, h4.setCell (p := ⟨g6, 1 + k, none⟩) (by show g ≤ g6; omega) _⟩, ?_, h6, ?_⟩
  · have := h5.set (1 + k) (.int .i64 x)
    rwa [ints_set, Nat.add_comm 1 k, List.set_cons_succ, Nat.add_comm k 1] at this
  · exact Reads.keep h7 fun b' o hb' => World.cell?_setCell_other w1 ⟨g6, 1 + k, none⟩ ⟨b', o, none⟩ _ (fun e => by injection e; omega)

theorem OutMem.drew {w w1 : World} {g g6 : Nat} {b : Beast} {s : Sys} {A : Option Addr} {q : Nat} {l vals : List Int} (h : OutMem w g g6 b s A q l vals w1) : OutMem w g g6 b s A q l vals w1.drew :=
  h.after (Below.refl _ _).drew

/-- a slice that holds kinds -/
theorem kinds_at {w : World} {B : Nat} {A : Option Addr} {M j : Nat} (h : ReadsI w B A (kinds M).length (kindsI M)) (hj : j < (kinds M).length) :
    ∃ bl o k, A = some ⟨bl, o, none⟩ ∧ w.cell? ⟨bl, o + j, none⟩ = some (.int .i64 ((k : Nat) : Int)) ∧ Hid (k = (kinds M).getD j 0) ∧ k ∈ kinds M ∧ k < 8 ∧ Hid ((kinds M).take (j + 1) = (kinds M).take j ++ [k]) := by
  obtain ⟨bl, o, hA, _, hl, hc⟩ := h.at_ hj
  have hk : (kindsI M)[j] = (((kinds M)[j] : Nat) : Int) := by simp [kindsI]
  rw [hk] at hc
  exact ⟨bl, o, (kinds M)[j], hA, hc, by simp [Hid, List.getD, List.getElem?_eq_getElem hj], List.getElem_mem hj, ((mem_kinds M _).1 (List.getElem_mem hj)).1, List.take_succ_eq_append_getElem hj⟩

set_option maxRecDepth 100000 in
set_option maxHeartbeats 4000000 in
theorem do_any (b : Beast) (s : Sys) (hb : b.v.length = 8) (he : beastErr b = 0) (hs : sysErr s = 0) (w : World) :
    Calls Tryz.prog 45 #[.agg (ints b.list), .agg (ints s.list)] w fun e w' => e = .returned (.agg (ints (doSys b s).list)) ∧ Below w.heap.size w w' := by
  obtain ⟨hk, hv⟩ := beast_ok b he
  obtain ⟨_, _, _, hr, hwr, hact1, hact3, hn1, hn2, hsw, hrd⟩ := sysErr_ok hs
  obtain ⟨hw1, hw2⟩ := m8_and b.k s.write hk (isSet_iff.1 hwr)
  obtain ⟨hr1, hr2⟩ := m8_and b.k s.read hk (isSet_iff.1 hr)
  have HW := Lib.hid hw1
  have HR := Lib.hid hr1
  have HB := Lib.hid hb
  have HV := Lib.hid hv
  clear hb he hs hr hwr hw1 hr1 hsw hrd hv
  have hbl : b.list.length = 9 := by simp [Beast.list, HB.out]
  go_enter Tryz.func45, Tryz.ntmps45
  go_upto_region 1 with (fail)
  refine wp_abs (DoMem w w.heap.size b s) ?_ ?_
  · obtain ⟨h1, h2, h3⟩ := blk3 w 25 54 25 (ints b.list) (ints s.list) (ints [0, 0, 0, 0, 0, 0, 0, 0, 0])
    exact ⟨h1, h2, h3, (((Below.refl _ _).alloc (Nat.le_refl _) _).alloc (by simp) _).alloc (by simp; omega) _⟩
  intro w1 hM
  obtain ⟨f0, f3, f4, f5, f6, fq, fb, ff⟩ := hM.facts HB.out
  have HM := Lib.hid hM
  clear hM
  go_wp2_with fail
  refine (matchQ_any _ _ _).mono ?_
  rintro e w2 ⟨rfl, hb2⟩
  have HM2 := Lib.hid (HM.out.after hb2)
  clear f0 f3 f4 f5 f6 fq fb ff hb2 HM
  obtain ⟨f0, f3, f4, f5, f6, fq, fb, ff⟩ := HM2.out.facts HB.out
  by_cases hq : matchQ b.k s.q = true
  · have hd : Hid (doSys b s = ⟨b.k, outN (newVal b s (wl b s)) (wl b s) b.v (wl b s).length⟩) := by unfold Hid doSys; rw [if_pos hq]
    rw [hq]
    clear hq
    have hM8w : Hid (m8 (bits .and .i64 b.k s.write) = b.k.toNat &&& s.write.toNat) := by unfold Hid; rw [HW.out]; unfold m8; omega
    have hM8r : Hid (m8 (bits .and .i64 b.k s.read) = b.k.toNat &&& s.read.toNat) := by unfold Hid; rw [HR.out]; unfold m8; omega
    have hwl : Hid (wl b s = kinds (b.k.toNat &&& s.write.toNat)) := rfl
    have hrl : Hid (rl b s = kinds (b.k.toNat &&& s.read.toNat)) := rfl
    generalize b.k.toNat &&& s.write.toNat = M at *
    generalize b.k.toNat &&& s.read.toNat = N at *
    go_wp2_with fail
    refine (list_any _ _).mono ?_
    rintro e w3 ⟨v, rfl, ho, hb3⟩
    rw [hM8w.out] at ho
    obtain ⟨A, c, rfl, hr⟩ := ho.form
    have hlen : (kindsI M).length = (kinds M).length := by simp [kindsI]
    rw [hlen] at hr ⊢
    clear hlen
    have HM3 := Lib.hid (HM2.out.after hb3)
    clear f0 f3 f4 f5 f6 fq fb ff
    obtain ⟨f0, f3, f4, f5, f6, fq, fb, ff⟩ := HM3.out.facts HB.out
    have hfz : fits (w3.alloc (.cells (ints [0, 0, 0, 0, 0, 0, 0, 0, 0]) 25)) w3.heap.size 0 9 = true := (Blk.new w3 25 (ints [0, 0, 0, 0, 0, 0, 0, 0, 0])).fits 0 9 (by decide)
    have HO := Lib.hid ho
    have HR3 := Lib.hid hr
    clear ho hr HM2 hb3
    go_upto_region 5 with (fail)
    have hg6 : w.heap.size + 2 < w3.heap.size := by have := HM3.out.2.2.1.lt; omega
    refine wp_abs (OutMem w w.heap.size w3.heap.size b s A (kinds M).length (kindsI M) b.v) ?_ ?_
    · have hbl0 : Below w3.heap.size w3 (putRow (w3.alloc (.cells (ints [0, 0, 0, 0, 0, 0, 0, 0, 0]) 25)) w3.heap.size 0 b.list) :=
        below_put ((Below.refl _ _).alloc (Nat.le_refl _) _) (Nat.le_refl _) _ _
      exact ⟨HM3.out.after hbl0, (Blk.new w3 25 (ints [0, 0, 0, 0, 0, 0, 0, 0, 0])).put_all b.list hbl, hg6, Reads.below HR3.out hbl0⟩
    clear hfz HR3 HO
    intro w4 hM4
    have HM4 := Lib.hid hM4
    clear hM4 HM3 f0 f3 f4 f5 f6 fq fb ff
    generalize w3.heap.size = g6 at *
    obtain ⟨f0, f3, f4, f5, f6, fq, fb, ff⟩ := HM4.out.1.facts HB.out
    go_wp2_with fail
    refine (list_any _ _).mono ?_
    rintro e w5 ⟨v, rfl, ho, hb5⟩
    rw [hM8r.out] at ho
    obtain ⟨A5, c5, rfl, hr5⟩ := ho.form
    have hlen : (kindsI N).length = (kinds N).length := by simp [kindsI]
    rw [hlen] at hr5 ⊢
    clear hlen
    have HM5 := Lib.hid (HM4.out.after hb5)
    have HR5 := Lib.hid hr5
    clear f0 f3 f4 f5 f6 fq fb ff ho hr5 HM4
    obtain ⟨f0, f3, f4, f5, f6, fq, fb, ff⟩ := HM5.out.1.facts HB.out
    clear hb5
    have hn8 := kinds_len N
    go_wp2_with fail
    go_loop [7, 35] (fun sm i => ∃ j : Nat, j ≤ (kinds N).length ∧ i = .int .i64 j ∧ sm = .int .i64 (sumTo b s ((kinds N).take j))) (fun _ i => (kinds N).length - (intOf i).toNat)
    case atStart => exact ⟨0, Nat.zero_le _, rfl, rfl⟩
    case round =>
      obtain ⟨j, hj, rfl, rfl⟩ := hrel
      by_cases hlt : j < (kinds N).length
      · obtain ⟨bl, o, k, rfl, hc, _, hkm, hk8, htk⟩ := kinds_at HR5.out hlt
        have hcv : w5.cell? ⟨w.heap.size, 1 + k, none⟩ = some (.int .i64 (b.v.getD k 0)) := by
          rw [HM5.out.1.1.cell, ints_get, Nat.add_comm]
          simp only [Beast.list, List.getElem?_cons_succ]
          rw [List.getElem?_eq_getElem (by rw [HB.out]; exact hk8)]
          simp [List.getD, List.getElem?_eq_getElem (show k < b.v.length by rw [HB.out]; exact hk8)]
        obtain ⟨hv1, hv2⟩ := (HV.out k hk8).2
        obtain ⟨hs1, hs2⟩ := vals_bound b HV.out s ((kinds N).take j) (fun q hq => ((mem_kinds N q).1 (List.mem_of_mem_take hq)).1)
        have hjl : ((kinds N).take j).length ≤ 8 := by rw [List.length_take]; omega
        have hsn : Hid (sumTo b s ((kinds N).take (j + 1)) = sumTo b s ((kinds N).take j) + b.v.getD k 0) := by unfold Hid; rw [htk.out, sumTo_snoc]
        clear htk
        generalize b.v.getD k 0 = x at *
        generalize sumTo b s ((kinds N).take j) = S at *
        generalize ((kinds N).take j).length = L at *
        go_wp2
        go_round
        case rel => exact ⟨j + 1, by omega, by go_num, by rw [hsn.out]⟩
        case measure => simp [intOf]; omega
      · have hjq : j = (kinds N).length := by omega
        subst hjq
        have HS : Hid (sumTo b s ((kinds N).take (kinds N).length) = sumTo b s (rl b s)) := by unfold Hid; rw [List.take_length, hrl.out]
        obtain ⟨hs1, hs2⟩ := vals_bound b HV.out s ((kinds N).take (kinds N).length) (fun q hq => ((mem_kinds N q).1 (List.mem_of_mem_take hq)).1)
        rw [List.length_take, Nat.min_self] at hs1 hs2
        generalize sumTo b s ((kinds N).take (kinds N).length) = S at *
        clear hlt hj HR5
        have hm8 := kinds_len M
        have hM5 := HM5.out
        go_wp2_with fail
        go_loopw [48] (fun i wr => ∃ j : Nat, j ≤ (kinds M).length ∧ i = .int .i64 j ∧ OutMem w w.heap.size g6 b s A (kinds M).length (kindsI M) (outN (newVal b s (wl b s)) (wl b s) b.v j) wr) (fun i _ => (kinds M).length - (intOf i).toNat)
        case atStart => exact ⟨0, Nat.zero_le _, rfl, hM5⟩
        case round =>
          clear f0 f3 f4 f5 f6 fq fb ff hM5 HM5
          obtain ⟨j, hj, rfl, hMr⟩ := hrel
          have HMr := Lib.hid hMr
          clear hMr
          obtain ⟨f0, f3, f4, f5, f6, fq, fb, ff⟩ := HMr.out.1.facts HB.out
          have hvl : Hid ((outN (newVal b s (wl b s)) (wl b s) b.v j).length = 8) := by unfold Hid; rw [outN_len, HB.out]
          by_cases hlt : j < (kinds M).length
          · obtain ⟨bl, o, k, rfl, hc, hkd, hkm, hk8, htk⟩ := kinds_at HMr.out.2.2.2 hlt
            have hcv : wr.cell? ⟨w.heap.size, 1 + k, none⟩ = some (.int .i64 (b.v.getD k 0)) := by
              rw [HMr.out.1.1.cell, ints_get, Nat.add_comm]
              simp only [Beast.list, List.getElem?_cons_succ]
              rw [List.getElem?_eq_getElem (by rw [HB.out]; exact hk8)]
              simp [List.getD, List.getElem?_eq_getElem (show k < b.v.length by rw [HB.out]; exact hk8)]
            have hco : wr.cell? ⟨g6, 1 + k, none⟩ = some (.int .i64 ((outN (newVal b s (wl b s)) (wl b s) b.v j).getD k 0)) := by
              rw [HMr.out.2.1.cell, ints_get, Nat.add_comm, List.getElem?_cons_succ]
              rw [List.getElem?_eq_getElem (by rw [hvl.out]; exact hk8)]
              simp [List.getD, List.getElem?_eq_getElem (show k < (outN (newVal b s (wl b s)) (wl b s) b.v j).length by rw [hvl.out]; exact hk8)]
            have hfo : wr.frozen? ⟨g6, 1 + k, none⟩ = false := HMr.out.2.1.frozen _
            obtain ⟨hv1, hv2⟩ := (HV.out k hk8).2
            have hstep : Hid (∀ x, x = newVal b s (wl b s) j → OutMem w w.heap.size g6 b s (some ⟨bl, o, none⟩) (kinds M).length (kindsI M) (outN (newVal b s (wl b s)) (wl b s) b.v (j + 1)) (wr.setCell ⟨g6, 1 + k, none⟩ (.int .i64 x))) := by
              intro x hx
              have := HMr.out.set k x
              rw [hx, hkd.out] at this
              unfold outN
              rw [hwl.out] at this ⊢
              rw [hx, hwl.out, hkd.out]
              exact this
            have hnv : Hid (newVal b s (wl b s) j = if s.act = 1 then cutI (b.v.getD k 0 + s.n) else if s.act = 2 then cutI S else b.v.getD ((kinds M).getD ((j + 1) % (kinds M).length) 0) 0) := by
              unfold Hid newVal
              rw [hwl.out, ← hkd.out, HS.out]
            generalize (outN (newVal b s (wl b s)) (wl b s) b.v j).getD k 0 = y at *
            generalize hx : b.v.getD k 0 = x at *
            have HX := Lib.hid hx
            clear hx
            by_cases ha1 : s.act = 1
            · have ha1' : (s.act == 1) = true := by simpa using ha1
              have hnv' : Hid (cutI (x + s.n) = newVal b s (wl b s) j) := by unfold Hid; rw [hnv.out, if_pos ha1]
              clear ha1
              have hk8i : (k : Int) < 8 := by omega
              have hsum : IntKind.i64.wrap (x + s.n) = x + s.n := IntWalk.i64_in _ (by omega)
              go_upto_region 16 with (fail)
              go_still_tail 11, (by kernel_rfl)
              still_call (cut_same _ _)
              repeat still_step
              refine wpStill_nil ?_
              change wpList _ _ _ _ _ wr.drew
              rw [hnv'.out]
              go_wp2_with fail
              go_roundw
              case rel => exact ⟨j + 1, by omega, by go_num, (hstep.out _ rfl).drew⟩
              case measure => simp [intOf]; omega
            · by_cases ha2 : s.act = 2
              · have ha1' : (s.act == 1) = false := by simpa using ha1
                have ha2' : (s.act == 2) = true := by simpa using ha2
                have hnv' : Hid (cutI S = newVal b s (wl b s) j) := by unfold Hid; rw [hnv.out, if_neg ha1, if_pos ha2]
                clear ha1 ha2
                go_wp2_with fail
                refine (cut_any _ _).mono ?_
                rintro e w' ⟨rfl, rfl⟩
                rw [hnv'.out]
                go_wp2_with fail
                go_roundw
                case rel => exact ⟨j + 1, by omega, by go_num, hstep.out _ rfl⟩
                case measure => simp [intOf]; omega
              · have ha1' : (s.act == 1) = false := by simpa using ha1
                have ha2' : (s.act == 2) = false := by simpa using ha2
                have ha3' : (s.act == 3) = true := by simp; omega
                have hmod : (j + 1) % (kinds M).length < (kinds M).length := Nat.mod_lt _ (by omega)
                obtain ⟨_, _, k', he', hc', hkd', hkm', hk8', htk'⟩ := kinds_at HMr.out.2.2.2 hmod
                simp only [Option.some.injEq, Addr.mk.injEq, and_true] at he'
                obtain ⟨rfl, rfl⟩ := he'
                have hnv' : Hid (b.v.getD k' 0 = newVal b s (wl b s) j) := by unfold Hid; rw [hnv.out, if_neg ha1, if_neg ha2, hkd'.out]
                have hcv' : wr.cell? ⟨w.heap.size, 1 + k', none⟩ = some (.int .i64 (b.v.getD k' 0)) := by
                  rw [HMr.out.1.1.cell, ints_get, Nat.add_comm]
                  simp only [Beast.list, List.getElem?_cons_succ]
                  rw [List.getElem?_eq_getElem (by rw [HB.out]; exact hk8')]
                  simp [List.getD, List.getElem?_eq_getElem (show k' < b.v.length by rw [HB.out]; exact hk8')]
                rw [hnv'.out] at hcv'
                have hme : ((j : Int) + 1) % ((kinds M).length : Int) = (((j + 1) % (kinds M).length : Nat) : Int) := by push_cast; rfl
                clear ha1 ha2 hkd' hkm' htk' hnv'
                generalize (j + 1) % (kinds M).length = i' at *
                have h8i : (k' : Int) < 8 := by omega
                go_wp2_with fail
                go_roundw
                case rel => exact ⟨j + 1, by omega, by go_num, hstep.out _ rfl⟩
                case measure => simp [intOf]; omega
          · have hjq : j = (kinds M).length := by omega
            subst hjq
            have hd' : Hid (doSys b s = ⟨b.k, outN (newVal b s (wl b s)) (wl b s) b.v (kinds M).length⟩) := by unfold Hid; rw [hd.out]; rw [hwl.out]
            have hll : (b.k :: outN (newVal b s (wl b s)) (wl b s) b.v (kinds M).length).length = 9 := by rw [List.length_cons, hvl.out]
            have frow : row? wr g6 0 9 = some (ints (b.k :: outN (newVal b s (wl b s)) (wl b s) b.v (kinds M).length)) := HMr.out.2.1.row_all hll
            generalize outN (newVal b s (wl b s)) (wl b s) b.v (kinds M).length = V at *
            go_wp2_with fail
            refine bodyPost_ret (v := .agg (ints (b.k :: V))) (results_cell_row rfl _ _ (w.heap.size + 1 + 1) 25 (ints (b.k :: V)) (0, 0) _ rfl (HMr.out.1.2.2.1.put_all _ hll) Tryz.underlying25 rfl (by rw [ints_size, hll]; exact beast_info)) rfl ?_
            exact ⟨by rw [hd'.out]; rfl, below_put HMr.out.1.2.2.2 (by omega) _ _⟩
  · have hd : Hid (doSys b s = b) := by unfold Hid doSys; rw [if_neg hq]
    have hq' : matchQ b.k s.q = false := by simpa using hq
    rw [hq']
    clear hq hq'
    go_wp2_with fail
    refine bodyPost_ret (v := .agg (ints b.list)) (results_cell_row rfl _ _ (w.heap.size + 1 + 1) 25 (ints b.list) (0, 0) _ rfl (HM2.out.2.2.1.put_all _ hbl) Tryz.underlying25 rfl (by rw [ints_size, hbl]; exact beast_info)) rfl ?_
    exact ⟨by rw [hd.out], below_put HM2.out.2.2.2 (by omega) _ _⟩

end Go.Proofs.YtpgcghnlepnoiaaGreat

/-
  The contract of system.Clash.
-/
namespace Go.Proofs.YtpgcghnlepnoiaaGreat
open Go.RowKit

theorem clash_any (s t : Sys) (w : World) : Calls Tryz.prog 68 #[.agg (ints s.list), .agg (ints t.list)] w fun e w' => e = .returned (.bool (clashI s t)) ∧ Below w.heap.size w w' := by
  have hd : Hid (clashI s t = (bits .or .i64 (bits .and .i64 s.write (bits .or .i64 t.read t.write)) (bits .and .i64 t.write s.read) != 0)) := rfl
  go_enter Tryz.func68, Tryz.ntmps68
  go_upto_region 1 with (fail)
  obtain ⟨h1, h2⟩ := blk2 w 54 54 (ints s.list) (ints t.list)
  refine wp_abs (fun w' => Blk w' w.heap.size 54 (ints s.list) ∧ Blk w' (w.heap.size + 1) 54 (ints t.list) ∧ Below w.heap.size w w') ⟨h1, h2, ((Below.refl _ _).alloc (Nat.le_refl _) _).alloc (by simp) _⟩ ?_
  rintro w1 ⟨h1, h2, h3⟩
  have H3 := Lib.hid h3
  have c1 : w1.cell? ⟨w.heap.size, 3, none⟩ = some (.int .i64 s.read) := h1.cell 3
  have c2 : w1.cell? ⟨w.heap.size, 4, none⟩ = some (.int .i64 s.write) := h1.cell 4
  have c3 : w1.cell? ⟨w.heap.size + 1, 3, none⟩ = some (.int .i64 t.read) := h2.cell 3
  have c4 : w1.cell? ⟨w.heap.size + 1, 4, none⟩ = some (.int .i64 t.write) := h2.cell 4
  clear h1 h2 h3
  go_wp2_with fail
  go_ret
  exact ⟨ret_bool hd.out.symm, H3.out⟩

theorem After.row {W : World} {g n : Nat} {t : TypeId} {xs : List Int} (h : Blk W g t (ints xs)) (hn : xs.length = n) (a : After W) : row? a.w g 0 n = some (ints xs) := (h.after a.below).row_all hn

end Go.Proofs.YtpgcghnlepnoiaaGreat
