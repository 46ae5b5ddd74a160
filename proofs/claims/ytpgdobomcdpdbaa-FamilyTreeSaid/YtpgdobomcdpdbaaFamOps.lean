/-
  The contracts of family.New, Parent, Loosen, Gone.
-/
import Derived.Test.YtpgdobomcdpdbaaFamMem
import Derived.Test.YtpgdobomcdpdbaaHub
namespace Go.Proofs.Ytpgdobomcdpdbaa
open Go.RowKit

/-- what readers see of a family -/
structure FamSee (w : World) (p b : Nat) (m : Fam) : Prop where
  ok : FamOk m
  blk : Blk w p 106 #[.map (some b)]
  map : MapAt hdV hdV (fun _ => True) w b m
theorem FamSee.after {w w' : World} {p b : Nat} {m : Fam} (h : FamSee w p b m) (hb : Below w.heap.size w w') : FamSee w' p b m := ⟨h.ok, h.blk.after hb, h.map.after hb⟩
theorem In.seeFam {G : Nat → Prop} {w0 w : World} {l : List Assn} {p : Nat} {m : Fam} (h : In G w0 (FamA p m :: l) w) : ∃ b, FamSee w p b m := by
  obtain ⟨hm, b, hI⟩ := h.openFam
  exact ⟨b, hm, hI.blk, hI.swap.mapAt⟩

def parentR (m : Fam) (c : Hd) : Hd × Bool := ((mget m c).getD (0, 0), (mget m c).isSome)
theorem look_fam {w : World} {b : Nat} {m : Fam} (h : MapAt hdV hdV (fun _ => True) w b m) (c : Hd) {w' : World} (hb : Below w.heap.size w w') :
    (Instr.lookup 104 (.map (some b)) (hdV c) true).run Try.prog w' = .ok (.tuple #[hdV (parentR m c).1, .bool (parentR m c).2]) w' := by
  have := (h.after hb).look keyHd Try.underlying104 (zero_handle w') (x := c) trivial true
  rw [this]
  unfold parentR
  cases mget m c <;> rfl

section
variable {G : Nat → Prop} {w0 w : World} {l : List Assn} {p : Nat} {m : Fam}
theorem fnew_in (h : In G w0 l w) : Calls Try.prog 52 #[] w fun e w' => ∃ p, e = .returned (.pointer (some ⟨p, 0, none⟩)) ∧ In G w0 (FamA p [] :: l) w' := by
  have H := Lib.hid h
  clear h
  have hmm := @run_makeMap Try.prog
  go_enter Try.func52, Try.ntmps52
  go_wp2_with fail
  go_ret
  have h2 := (H.out.newMap hdV hdV (fun _ => True)).alloc 106 #[.map (some w.heap.size)]
  rw [World.size_alloc] at h2
  exact ⟨_, rfl, In.shutFam FamOk.nil h2⟩
end

set_option maxRecDepth 100000 in
theorem fparent_any {p b : Nat} {m : Fam} (c : Hd) (w : World) (h : FamSee w p b m) :
    Calls Try.prog 33 #[.pointer (some ⟨p, 0, none⟩), hdV c] w fun e w' => e = .returned (.tuple #[hdV (parentR m c).1, .bool (parentR m c).2]) ∧ Below w.heap.size w w' := by
  have HS := Lib.hid h
  clear h
  obtain ⟨c1, c2⟩ := c
  rw [hdV_eq]
  go_enter Try.func33, Try.ntmps33
  go_upto_region 1 with (fail)
  refine wp_abs (fun w' => Blk w' (w.heap.size + 1) 36 (ints [0, 0]) ∧ Blk w' w.heap.size 36 (ints (hL (c1, c2))) ∧ Below w.heap.size w w') ⟨by
    have := Blk.new (w.alloc (.cells (ints (hL (c1, c2))) 36)) 36 (ints [0, 0])
    rwa [World.size_alloc] at this, (Blk.new w _ _).alloc _, ((Below.refl _ _).alloc (Nat.le_refl _) _).alloc (by simp) _⟩ ?_
  rintro w1 ⟨hR, hC, hb⟩
  have hS1 := HS.out.after hb
  have k0 : w1.cell? ⟨p, 0, none⟩ = some (.map (some b)) := hS1.blk.cell 0
  have k1 : row? w1 w.heap.size 0 2 = some #[.int .i64 c1, .int .i64 c2] := hC.row_all rfl
  have hl1 := look_fam hS1.map (c1, c2) (Below.refl _ _).drew
  have hl2 := look_fam hS1.map (c1, c2) (((Below.refl _ w1).alloc (Nat.le_refl _) (.cells #[.int .i64 0, .int .i64 0] 36)).drew)
  have hba := (Below.refl w1.heap.size w1).alloc (Nat.le_refl _) (.cells #[.int .i64 0, .int .i64 0] 36)
  have k2 : row? (w1.alloc (.cells #[.int .i64 0, .int .i64 0] 36)) w.heap.size 0 2 = some #[.int .i64 c1, .int .i64 c2] := (hC.after hba).row_all rfl
  have k3 : (w1.alloc (.cells #[.int .i64 0, .int .i64 0] 36)).cell? ⟨p, 0, none⟩ = some (.map (some b)) := (hS1.blk.after hba).cell 0
  have HR := Lib.hid hR
  have HB := Lib.hid hb
  have hrb : w.heap.size ≤ w.heap.size + 1 := Nat.le_succ _
  rw [hdV_eq] at hl1 hl2
  generalize hr : parentR m (c1, c2) = r at *
  have HRR := Lib.hid hr
  clear hr
  obtain ⟨⟨r1, r2⟩, is⟩ := r
  simp only [hdV_eq] at hl1 hl2
  clear hR hC hb hS1 HS hba
  generalize w.heap.size + 1 = rb at *
  go_region
  all_goals
    go_upto_region 2 with (fail)
    refine wp_abs (fun w' => Blk w' w1.heap.size 36 (ints [r1, r2]) ∧ Blk w' rb 36 (ints [0, 0]) ∧ Below w.heap.size w w') ⟨(blk_new_put w1 36 [0, 0] [r1, r2] rfl).drew, (HR.out.after (below_new_put w1 36 [0, 0] [r1, r2])).drew, (HB.out.trans ((below_new_put w1 36 [0, 0] [r1, r2]).mono HB.out.size)).drew⟩ ?_
    generalize w1.heap.size = xb at *
    rintro w2 ⟨hx, hr2, hb2⟩
    have q1 : row? w2 xb 0 2 = some (ints [r1, r2]) := hx.row_all rfl
    have f1 : fits w2 rb 0 2 = true := hr2.fits 0 2 (by rw [ints_size]; decide)
    have HP := Lib.hid (hr2.put_all [r1, r2] rfl)
    have HBP : Hid (Below w.heap.size w (putRow w2 rb 0 [r1, r2])) := below_put hb2 (by omega) 0 _
    clear hx hr2 hb2 hl1 hl2 k0 k1 k2 k3
    go_wp2_with fail
    refine bodyPost_row_tmp rfl rb 36 (ints [r1, r2]) (.bool is) _ rfl rfl HP.out Try.underlying36 rfl (by rw [ints_size]; exact handle_info) rfl ?_
    rw [HRR.out]
    exact ⟨rfl, HBP.out⟩

end Go.Proofs.Ytpgdobomcdpdbaa
