/-
  Several texts in one (merged by a program of mine): FamOps, FamGone, FamLoosen.
-/
import Derived.Test.YtpgcghnlepnoiaaGreatMP30
set_option linter.unusedVariables false
set_option linter.unusedSimpArgs false
set_option linter.unusedSectionVars false
/-
  The contracts of family.New, Parent, Loosen, Gone.
-/
namespace Go.Proofs.YtpgcghnlepnoiaaGreat
open Go.RowKit

/-- what readers see of a family -/
structure FamSee (w : World) (p b : Nat) (m : Fam) : Prop where
  ok : FamOk m
  blk : Blk w p 100 #[.map (some b)]
  map : MapAt hdV hdV (fun _ => True) w b m
theorem FamSee.after {w w' : World} {p b : Nat} {m : Fam} (h : FamSee w p b m) (hb : Below w.heap.size w w') : FamSee w' p b m := ⟨h.ok, h.blk.after hb, h.map.after hb⟩
theorem In.seeFam {G : Nat → Prop} {w0 w : World} {l : List Assn} {p : Nat} {m : Fam} (h : In G w0 (FamA p m :: l) w) : ∃ b, FamSee w p b m := by
  obtain ⟨hm, b, hI⟩ := h.openFam
  exact ⟨b, hm, hI.blk, hI.swap.mapAt⟩

def parentR (m : Fam) (c : Hd) : Hd × Bool := ((mget m c).getD (0, 0), (mget m c).isSome)
theorem look_fam {w : World} {b : Nat} {m : Fam} (h : MapAt hdV hdV (fun _ => True) w b m) (c : Hd) {w' : World} (hb : Below w.heap.size w w') :
    (Instr.lookup 98 (.map (some b)) (hdV c) true).run Tryz.prog w' = .ok (.tuple #[hdV (parentR m c).1, .bool (parentR m c).2]) w' := by
  have := (h.after hb).look keyHd Tryz.underlying98 (zero_handle w') (x := c) trivial true
  rw [this]
  unfold parentR
  cases mget m c <;> rfl

section
variable {G : Nat → Prop} {w0 w : World} {l : List Assn} {p : Nat} {m : Fam}
theorem fnew_in (h : In G w0 l w) : Calls Tryz.prog 27 #[] w fun e w' => ∃ p, e = .returned (.pointer (some ⟨p, 0, none⟩)) ∧ In G w0 (FamA p [] :: l) w' := by
  have H := Lib.hid h
  clear h
  have hmm := @run_makeMap Tryz.prog
  go_enter Tryz.func27, Tryz.ntmps27
  go_wp2_with fail
  go_ret
  have h2 := (H.out.newMap hdV hdV (fun _ => True)).alloc 100 #[.map (some w.heap.size)]
  rw [World.size_alloc] at h2
  exact ⟨_, rfl, In.shutFam FamOk.nil h2⟩
end

set_option maxRecDepth 100000 in
theorem fparent_any {p b : Nat} {m : Fam} (c : Hd) (w : World) (h : FamSee w p b m) :
    Calls Tryz.prog 66 #[.pointer (some ⟨p, 0, none⟩), hdV c] w fun e w' => e = .returned (.tuple #[hdV (parentR m c).1, .bool (parentR m c).2]) ∧ Below w.heap.size w w' := by
  have HS := Lib.hid h
  clear h
  obtain ⟨c1, c2⟩ := c
  rw [hdV_eq]
  go_enter Tryz.func66, Tryz.ntmps66
  go_upto_region 1 with (fail)
  refine wp_abs (fun w' => Blk w' (w.heap.size + 1) 30 (ints [0, 0]) ∧ Blk w' w.heap.size 30 (ints (hL (c1, c2))) ∧ Below w.heap.size w w') ⟨by
    have := Blk.new (w.alloc (.cells (ints (hL (c1, c2))) 30)) 30 (ints [0, 0])
    rwa [World.size_alloc] at this, (Blk.new w _ _).alloc _, ((Below.refl _ _).alloc (Nat.le_refl _) _).alloc (by simp) _⟩ ?_
  rintro w1 ⟨hR, hC, hb⟩
  have hS1 := HS.out.after hb
  have k0 : w1.cell? ⟨p, 0, none⟩ = some (.map (some b)) := hS1.blk.cell 0
  have k1 : row? w1 w.heap.size 0 2 = some #[.int .i64 c1, .int .i64 c2] := hC.row_all rfl
  have hl1 := look_fam hS1.map (c1, c2) (Below.refl _ _).drew
  have hl2 := look_fam hS1.map (c1, c2) (((Below.refl _ w1).alloc (Nat.le_refl _) (.cells #[.int .i64 0, .int .i64 0] 30)).drew)
  have hba := (Below.refl w1.heap.size w1).alloc (Nat.le_refl _) (.cells #[.int .i64 0, .int .i64 0] 30)
  have k2 : row? (w1.alloc (.cells #[.int .i64 0, .int .i64 0] 30)) w.heap.size 0 2 = some #[.int .i64 c1, .int .i64 c2] := (hC.after hba).row_all rfl
  have k3 : (w1.alloc (.cells #[.int .i64 0, .int .i64 0] 30)).cell? ⟨p, 0, none⟩ = some (.map (some b)) := (hS1.blk.after hba).cell 0
  have HR := Lib.hid hR
  have HB := Lib.hid hb
  have hrb : w.heap.size ≤ w.heap.size + 1 := Nat.le_succ _
  rw [hdV_eq] at hl1 hl2
  generalize hr : parentR m (c1, c2) = r at *
  have HRR := Lib.hid hr
  clear hr
  obtain ⟨⟨r1, r2⟩, is⟩ := r
  simp only [hdV_eq] at hl1 hl2
  clear hR hC hb hS1 HS hba
  generalize w.heap.size + 1 = rb at *
  go_region
  all_goals
    go_upto_region 2 with (fail)
    refine wp_abs (fun w' => Blk w' w1.heap.size 30 (ints [r1, r2]) ∧ Blk w' rb 30 (ints [0, 0]) ∧ Below w.heap.size w w') ⟨(blk_new_put w1 30 [0, 0] [r1, r2] rfl).drew, (HR.out.after (below_new_put w1 30 [0, 0] [r1, r2])).drew, (HB.out.trans ((below_new_put w1 30 [0, 0] [r1, r2]).mono HB.out.size)).drew⟩ ?_
    generalize w1.heap.size = xb at *
    rintro w2 ⟨hx, hr2, hb2⟩
    have q1 : row? w2 xb 0 2 = some (ints [r1, r2]) := hx.row_all rfl
    have f1 : fits w2 rb 0 2 = true := hr2.fits 0 2 (by rw [ints_size]; decide)
    have HP := Lib.hid (hr2.put_all [r1, r2] rfl)
    have HBP : Hid (Below w.heap.size w (putRow w2 rb 0 [r1, r2])) := below_put hb2 (by omega) 0 _
    clear hx hr2 hb2 hl1 hl2 k0 k1 k2 k3
    go_wp2_with fail
    refine bodyPost_row_tmp rfl rb 30 (ints [r1, r2]) (.bool is) _ rfl rfl HP.out Tryz.underlying30 rfl (by rw [ints_size]; exact handle_info) rfl ?_
    rw [HRR.out]
    exact ⟨rfl, HBP.out⟩

end Go.Proofs.YtpgcghnlepnoiaaGreat

/-
  The contracts of family.Gone's closure, of maps.DeleteFunc with it, and of family.Gone.
-/
namespace Go.Proofs.YtpgcghnlepnoiaaGreat
open Go.RowKit

def goneB (h : Hd) (x : Hd × Hd) : Bool := decide (x.1 = h) || decide (x.2 = h)
theorem hL_dec (a b : Hd) : decide (hL a = hL b) = decide (a = b) := by
  rw [Bool.eq_iff_iff, decide_eq_true_eq, decide_eq_true_eq]
  exact ⟨hL_inj, fun e => by rw [e]⟩
set_option maxRecDepth 100000 in
theorem gone1_any (x v h : Hd) (hb : Nat) (w : World) (hB : Blk w hb 30 (ints (hL h))) :
    Calls Tryz.prog 60 #[hdV x, hdV v, .pointer (some ⟨hb, 0, none⟩)] w fun e w' => e = .returned (.bool (goneB h (x, v))) ∧ Below w.heap.size w w' := by
  have HB := Lib.hid hB
  clear hB
  have heq : ∀ (a b : Hd) (W : World), (binOp .eql 30 (.agg (ints (hL a))) (.agg (ints (hL b)))).run Tryz.prog W = .ok (.bool (decide (a = b))) W := fun a b W => by rw [eql_handle _ _ rfl rfl W, hL_dec]
  have h1 := heq x h
  have h2 := heq v h
  have HR : Hid (goneB h (x, v) = (decide (x = h) || decide (v = h))) := rfl
  clear heq
  go_enter Tryz.func60, Tryz.ntmps60
  go_upto_region 1 with (fail)
  refine wp_abs (fun w' => Blk w' (w.heap.size + 1) 30 (ints (hL v)) ∧ Blk w' w.heap.size 30 (ints (hL x)) ∧ Below w.heap.size w w') ⟨by
    have := Blk.new (w.alloc (.cells (ints (hL x)) 30)) 30 (ints (hL v))
    rwa [World.size_alloc] at this, (Blk.new w _ _).alloc _, ((Below.refl _ _).alloc (Nat.le_refl _) _).alloc (by simp) _⟩ ?_
  rintro w1 ⟨hV, hX, hb1⟩
  have HB1 := Lib.hid hb1
  have q1 : row? w1 (w.heap.size + 1) 0 2 = some (ints (hL v)) := hV.row_all rfl
  have q2 : row? w1 w.heap.size 0 2 = some (ints (hL x)) := hX.row_all rfl
  have q3 : row? w1 hb 0 2 = some (ints (hL h)) := (HB.out.after hb1).row_all rfl
  clear hV hX hb1 HB
  generalize hL x = xs at *
  generalize hL v = vs at *
  generalize hL h = hs at *
  generalize w.heap.size + 1 = vb at *
  cases hd1 : decide (x = h)
  · rw [hd1] at h1 HR
    clear hd1
    generalize decide (v = h) = d2 at *
    go_wp2_with fail
    go_ret
    exact ⟨ret_bool (by rw [HR.out]; rfl), HB1.out⟩
  · rw [hd1] at h1 HR
    clear hd1 h2
    generalize decide (v = h) = d2 at *
    go_wp2_with fail
    go_ret
    exact ⟨ret_bool (by rw [HR.out]; rfl), HB1.out⟩

theorem wpList_dropR {κ ν : Type} [DecidableEq κ] {P : Program} {k : TypeId} {ek : κ → Value} {ev : ν → Value} {good : κ → Prop} {w : World} (K : KeyOk P k ek good) {ops : Array Oper} {rest : List Oper} {o : Oper} {a : Act} {Q : Exit → Act → World → Prop} (hgd : o.guard = none) (mo xo : Operand) (t e : TypeId) (hop : o.op = Op.call { callee := Callee.builtin Builtin.delete, args := #[mo, xo], argTypes := #[t, k] })
    (ht : P.underlying t = some (.map k e)) (b r : Nat) (m left : List (κ × ν)) (hm : a.eval mo = .map (some b)) (h : RangeAt ek ev good w b r m left) (x : κ) (hx : a.eval xo = ek x) (hgx : good x) (hxl : x ∉ mkeys left)
    (hK : ∀ w', RangeAt ek ev good w' b r (mdel m x) left → Only (· = b) w w' → w'.heap.size = w.heap.size → wpList P ops Q rest (a.put o.dst (.tuple #[])) w') : wpList P ops Q (o :: rest) a w := by
  refine wpList_plain hgd fun K' hK' => ?_
  obtain ⟨w', hrun, h1, h2, h3⟩ := h.drop K ht hgx hxl o.type
  unfold Oper.wp
  simp [execOp, hop, resolve, invoke, builtin, hm, hx, hrun, Result.andThen]
  exact hK' _ _ (hK w' h1 h2 h3)

/-- the map after some of its entries have come -/
def goneMid (m : Fam) (h : Hd) (left : Fam) : Fam := m.filter fun x => decide (x.1 ∈ mkeys left) || !goneB h x
theorem goneMid_start (m : Fam) (h : Hd) : goneMid m h m = m := by
  unfold goneMid
  rw [List.filter_eq_self]
  intro x hx
  rw [decide_eq_true (show x.1 ∈ mkeys m from List.mem_map.2 ⟨x, hx, rfl⟩)]; rfl
theorem goneMid_end (m : Fam) (h : Hd) : goneMid m h [] = goneR m h := by
  unfold goneMid goneR goneB
  apply List.filter_congr
  intro x _
  simp [mkeys]
theorem mem_mdel_keys {left : Fam} {x y : Hd} : y ∈ mkeys (mdel left x) ↔ y ∈ mkeys left ∧ y ≠ x := by
  unfold mkeys
  simp only [List.mem_map]
  constructor
  · rintro ⟨p, hp, rfl⟩
    have := mem_mdel.1 hp
    exact ⟨⟨p, this.1, rfl⟩, this.2⟩
  · rintro ⟨⟨p, hp, rfl⟩, hne⟩
    exact ⟨p, mem_mdel.2 ⟨hp, hne⟩, rfl⟩
theorem goneMid_keep {m left : Fam} {h x v : Hd} (hn : (mkeys m).Nodup) (hx : (x, v) ∈ m) (hg : goneB h (x, v) = false) : goneMid m h (mdel left x) = goneMid m h left := by
  unfold goneMid
  apply List.filter_congr
  intro y hy
  by_cases e : y.1 = x
  · have : y = (x, v) := bond_inj hn y hy (x, v) hx e
    rw [this, hg]; simp
  · congr 1
    rw [Bool.eq_iff_iff, decide_eq_true_eq, decide_eq_true_eq, mem_mdel_keys]
    exact ⟨fun h => h.1, fun h => ⟨h, e⟩⟩
theorem goneMid_drop {m left : Fam} {h x v : Hd} (hn : (mkeys m).Nodup) (hx : (x, v) ∈ m) (hg : goneB h (x, v) = true) : mdel (goneMid m h left) x = goneMid m h (mdel left x) := by
  unfold goneMid mdel
  rw [List.filter_filter]
  apply List.filter_congr
  intro y hy
  by_cases e : y.1 = x
  · have : y = (x, v) := bond_inj hn y hy (x, v) hx e
    have h2 : decide (y.1 ∈ mkeys (mdel left x)) = false := by rw [decide_eq_false_iff_not, mem_mdel_keys]; exact fun h => h.2 e
    rw [show (List.filter (fun p : Hd × Hd => !decide (p.1 = x)) left) = mdel left x from rfl, h2, this, hg]; simp
  · have h2 : decide (y.1 ∈ mkeys (mdel left x)) = decide (y.1 ∈ mkeys left) := by
      rw [Bool.eq_iff_iff, decide_eq_true_eq, decide_eq_true_eq, mem_mdel_keys]
      exact ⟨fun h => h.1, fun h => ⟨h, e⟩⟩
    rw [show (List.filter (fun p : Hd × Hd => !decide (p.1 = x)) left) = mdel left x from rfl, h2]
    simp [e]

set_option maxHeartbeats 1000000 in
set_option maxRecDepth 100000 in
theorem deleteFunc_in {G : Nat → Prop} {w0 w : World} {l : List Assn} {b hb : Nat} {m : Fam} (hn : (mkeys m).Nodup) (h : Hd) (hI : In G w0 (FMap b m :: Box hb 30 (ints (hL h)) :: l) w) :
    Calls Tryz.prog 59 #[.map (some b), .func (.func 60) #[] #[.pointer (some ⟨hb, 0, none⟩)]] w fun e w' => e = .returned (.tuple #[]) ∧ In G w0 (FMap b (goneR m h) :: Box hb 30 (ints (hL h)) :: l) w' := by
  have HI0 := Lib.hid hI
  have HN := Lib.hid hn
  clear hI hn
  go_enter Tryz.func59, Tryz.ntmps59
  go_wp2_with (at_range; go_loud (refine wpList_rangeOver rfl _ 98 30 rfl Tryz.underlying98 b _ rfl (In.mapAt HI0.out) ?_))
  intro w6 hr6 hb6 hs6
  have HI7 := Lib.hid (In.ranged HI0.out hr6 hb6 hs6)
  generalize w.heap.size = ri at *
  clear hr6 hb6 hs6 HI0
  go_wp2_with fail
  go_loopw [9] (fun _ w' => ∃ left, (∀ q ∈ left, q ∈ m) ∧ In G w0 (RangeA hdV hdV (fun _ => True) b ri (goneMid m h left) left :: Box hb 30 (ints (hL h)) :: l) w') (fun _ w' => w'.rangeLeft b ri)
  case atStart => exact ⟨m, fun _ h => h, by rw [goneMid_start]; exact HI7.out⟩
  case round =>
    clear HI7
    obtain ⟨left, hsub, hI⟩ := hrel
    have HI := Lib.hid hI
    have HS := Lib.hid hsub
    clear hI hsub
    go_wp2_with (at_next; go_loud (refine wpList_nextOf keyHd rfl _ rfl b ri _ left rfl (In.rangeAt HI.out) ?_ ?_))
    · intro hl0
      subst hl0
      rw [goneMid_end] at HI
      go_wp2_with fail
      go_end0
      exact ⟨rfl, In.unranged HI.out⟩
    · intro x1 x2 v1 v2 w7 hx hr7 ho7 hs7 hlt7 hen
      have HI7 := Lib.hid (In.stepped HI.out hr7 ho7)
      have HX := Lib.hid (HS.out _ hx)
      have HLEN := Lib.hid hlt7
      have HXL := Lib.hid hx
      clear hr7 ho7 hs7 hlt7 hx
      obtain ⟨f1, f2⟩ := two_fits w7 30 30 [0, 0] [0, 0] [x1, x2]
      go_upto_region 3 with (fail)
      refine wp_abs (In G w0 (Box (w7.heap.size + 1) 30 (ints [v1, v2]) :: Box w7.heap.size 30 (ints [x1, x2]) :: RangeA hdV hdV (fun _ => True) b ri (goneMid m h left) (mdel left (x1, x2)) :: Box hb 30 (ints (hL h)) :: l)) (HI7.out.struct2 30 30 [0, 0] [0, 0] [x1, x2] [v1, v2] rfl rfl) ?_
      clear f1 f2 hen HI7
      generalize w7.heap.size + 1 = vb
      generalize w7.heap.size = xb
      intro w8 hI8
      have q1 : row? w8 xb 0 2 = some (ints [x1, x2]) := hI8.swap.blk.row_all rfl
      have q2 : row? w8 vb 0 2 = some (ints [v1, v2]) := hI8.blk.row_all rfl
      have hBH := hI8.fourth.blk
      have HI8 := Lib.hid hI8.third
      clear hI8
      go_wp2_with fail
      refine (gone1_any (x1, x2) (v1, v2) h hb w8 hBH).mono ?_
      rintro e w9 ⟨rfl, hb9⟩
      have HI9 := Lib.hid (HI8.out.below hb9)
      have q1 : row? w9 xb 0 2 = some (ints [x1, x2]) := HI9.out.third.blk.row_all rfl
      have HI10 : Hid (In G w0 (RangeA hdV hdV (fun _ => True) b ri (goneMid m h left) (mdel left (x1, x2)) :: Box hb 30 (ints (hL h)) :: l) w9) := by
        have := HI9.out.swap.drop.swap.drop
        exact this
      clear hb9 HI8 q2 HI9
      cases hg : goneB h ((x1, x2), (v1, v2))
      · have HK := Lib.hid (goneMid_keep (left := left) HN.out HX.out hg)
        clear hg
        go_wp2_with fail
        go_roundw
        case rel => exact ⟨mdel left (x1, x2), fun q hq => HS.out q (mem_mdel.1 hq).1, by rw [HK.out]; exact HI10.out⟩
        case measure => rw [(In.rangeAt HI10.out).count, (In.rangeAt HI.out).count]; exact HLEN.out
      · have HK := Lib.hid (goneMid_drop (left := left) HN.out HX.out hg)
        have hnl : (x1, x2) ∉ mkeys (mdel left (x1, x2)) := fun h => (mem_mdel_keys.1 h).2 rfl
        clear hg
        go_wp2_with (at_delete; go_loud (refine wpList_dropR keyHd rfl _ _ 98 30 rfl Tryz.underlying98 b ri _ _ rfl (In.rangeAt HI10.out) (x1, x2) rfl trivial hnl ?_))
        intro w10 h1 h2 h3
        have HI11 := Lib.hid (In.rangeDropped HI10.out h1 h2)
        rw [HK.out] at HI11
        clear h1 h2 h3 HI10 hnl
        go_wp2_with fail
        go_roundw
        case rel => exact ⟨mdel left (x1, x2), fun q hq => HS.out q (mem_mdel.1 hq).1, HI11.out⟩
        case measure => rw [(In.rangeAt HI11.out).count, (In.rangeAt HI.out).count]; exact HLEN.out

set_option maxRecDepth 100000 in
theorem fgone_in {G : Nat → Prop} {w0 w : World} {l : List Assn} {p : Nat} {m : Fam} (h : In G w0 (FamA p m :: l) w) (c : Hd) :
    Calls Tryz.prog 34 #[.pointer (some ⟨p, 0, none⟩), hdV c] w fun e w' => e = .returned (.tuple #[]) ∧ In G w0 (FamA p (goneR m c) :: l) w' := by
  obtain ⟨hm, b, hI⟩ := h.openFam
  have HM := Lib.hid hm
  have HI0 := Lib.hid hI
  clear h hm hI
  obtain ⟨c1, c2⟩ := c
  rw [hdV_eq]
  go_enter Tryz.func34, Tryz.ntmps34
  go_upto_region 1 with (fail)
  refine wp_abs (In G w0 (Box w.heap.size 30 (ints [c1, c2]) :: Box p 100 #[.map (some b)] :: FMap b m :: l)) (HI0.out.alloc 30 (ints [c1, c2])) ?_
  generalize w.heap.size = cb
  intro w1 hI
  have k0 : w1.cell? ⟨p, 0, none⟩ = some (.map (some b)) := hI.swap.blk.cell 0
  have HI : Hid (In G w0 (FMap b m :: Box cb 30 (ints (hL (c1, c2))) :: Box p 100 #[.map (some b)] :: l) w1) := hI.third
  clear hI HI0
  go_wp2_with fail
  refine (deleteFunc_in HM.out.nodup (c1, c2) HI.out).mono ?_
  rintro e w2 ⟨rfl, hI2⟩
  have HI2 := Lib.hid hI2
  clear hI2 HI k0
  go_wp2_with fail
  go_end0
  exact ⟨rfl, In.shutFam (HM.out.gone _) (HI2.out.third.swap.third.drop.swap)⟩

end Go.Proofs.YtpgcghnlepnoiaaGreat

/-
  The contract of family.Loosen.
-/
namespace Go.Proofs.YtpgcghnlepnoiaaGreat
open Go.RowKit

set_option maxRecDepth 100000 in
theorem floosen_in {G : Nat → Prop} {w0 w : World} {l : List Assn} {p : Nat} {m : Fam} (h : In G w0 (FamA p m :: l) w) (c : Hd) :
    Calls Tryz.prog 17 #[.pointer (some ⟨p, 0, none⟩), hdV c] w fun e w' => e = .returned (.int .i64 (loosenR m c).2) ∧ In G w0 (FamA p (loosenR m c).1 :: l) w' := by
  obtain ⟨hm, b, hI⟩ := h.openFam
  have HM := Lib.hid hm
  have HI0 := Lib.hid hI
  clear h hm hI
  obtain ⟨c1, c2⟩ := c
  rw [hdV_eq]
  go_enter Tryz.func17, Tryz.ntmps17
  go_upto_region 1 with (fail)
  refine wp_abs (In G w0 (Box w.heap.size 30 (ints [c1, c2]) :: Box p 100 #[.map (some b)] :: FMap b m :: l)) (HI0.out.alloc 30 (ints [c1, c2])) ?_
  generalize w.heap.size = cb
  intro w1 hI
  have hba := (Below.refl w1.heap.size w1).alloc (Nat.le_refl _) (.cells #[.int .i64 0, .int .i64 0] 30)
  have hmap := hI.third.mapAt
  have k0 : w1.cell? ⟨p, 0, none⟩ = some (.map (some b)) := hI.swap.blk.cell 0
  have k1 : row? w1 cb 0 2 = some #[.int .i64 c1, .int .i64 c2] := hI.blk.row_all (xs := [c1, c2]) rfl
  have k2 : row? (w1.alloc (.cells #[.int .i64 0, .int .i64 0] 30)) cb 0 2 = some #[.int .i64 c1, .int .i64 c2] := (hI.blk.after hba).row_all (xs := [c1, c2]) rfl
  have k3 : (w1.alloc (.cells #[.int .i64 0, .int .i64 0] 30)).cell? ⟨p, 0, none⟩ = some (.map (some b)) := (hI.swap.blk.after hba).cell 0
  have hl1 := look_fam hmap (c1, c2) (Below.refl _ _).drew
  have hl2 := look_fam hmap (c1, c2) (((Below.refl _ w1).alloc (Nat.le_refl _) (.cells #[.int .i64 0, .int .i64 0] 30)).drew)
  have HI := Lib.hid hI
  rw [hdV_eq] at hl1 hl2
  have HRR : Hid ((parentR m (c1, c2)).2 = (mget m (c1, c2)).isSome) := rfl
  generalize parentR m (c1, c2) = r at *
  obtain ⟨⟨r1, r2⟩, is⟩ := r
  simp only [hdV_eq] at hl1 hl2 HRR
  clear hI hmap hba HI0
  have HMOVE : Hid (∀ w2, w2 = (putRow (w1.alloc (.cells (ints [0, 0]) 30)) w1.heap.size 0 [r1, r2]).drew → In G w0 (Box p 100 #[.map (some b)] :: FMap b m :: Box cb 30 (ints [c1, c2]) :: l) w2) := fun w2 e => by
    rw [e]
    exact ((HI.out.below (below_new_put w1 30 [0, 0] [r1, r2]).drew).perm ((List.Perm.swap _ _ _).trans ((List.Perm.swap _ _ _).cons _)))
  go_region
  all_goals
    go_upto_region 2 with (fail)
    refine wp_abs (In G w0 (Box p 100 #[.map (some b)] :: FMap b m :: Box cb 30 (ints [c1, c2]) :: l)) (HMOVE.out _ rfl) ?_
    intro w2 hI2
    have HI2 := Lib.hid hI2
    have k4 : w2.cell? ⟨p, 0, none⟩ = some (.map (some b)) := hI2.blk.cell 0
    have k5 : row? w2 cb 0 2 = some #[.int .i64 c1, .int .i64 c2] := hI2.third.blk.row_all (xs := [c1, c2]) rfl
    clear hI2 hl1 hl2 k0 k1 k2 k3 HMOVE HI
    cases is
    · have HL : Hid (loosenR m (c1, c2) = (m, 5)) := by unfold Hid loosenR; rw [← HRR.out]; rfl
      go_wp2_with fail
      go_ret
      rw [HL.out]
      exact ⟨rfl, In.shutFam HM.out HI2.out.third.drop⟩
    · have HL : Hid (loosenR m (c1, c2) = (mdel m (c1, c2), 0)) := by unfold Hid loosenR; rw [← HRR.out]; rfl
      go_wp2_with fail
      go_still_tail 5, (by kernel_rfl)
      change wpList _ _ _ _ _ w2.drew
      have HI3 := Lib.hid HI2.out.drew
      clear HI2 k4 k5
      generalize w2.drew = w3 at *
      go_wp2_with (at_delete; go_loud (refine wpList_drop keyHd rfl _ _ 98 30 rfl Tryz.underlying98 b m rfl HI3.out.swap.mapAt (c1, c2) rfl trivial ?_))
      intro w4 h1 h2 h3
      have HI4 := Lib.hid (In.mapped HI3.out.swap h1 h2)
      clear h1 h2 h3
      go_wp2_with fail
      go_ret
      rw [HL.out]
      have hok := HM.out.loosen (c1, c2)
      rw [HL.out] at hok
      exact ⟨rfl, In.shutFam hok HI4.out.swap.third.drop⟩

end Go.Proofs.YtpgcghnlepnoiaaGreat
